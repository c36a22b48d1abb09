/-
  Layer 41: the maps that Bodies fills: how many bytes an id was told; which ids have a head. No condition; nothing is walked here.
-/
import Derived.Test.YtkihgbglodfkmaaGreatKeys
import Derived.Test.YtkihgbglodfkmaaGreatIter
import Derived.Maps.OwnIn
import Derived.Maps.OwnSet
import Derived.Maps.RangeWalk
namespace Go.Proofs.YtkihgbglodfkmaaGreat
open Go.RowKit
set_option linter.unusedVariables false

theorem law3 : Maps.Keyed Tryz.prog 3 := Maps.int_keyed Tryz.underlying3
theorem law9 : Maps.Keyed Tryz.prog 9 := Maps.string_keyed Tryz.underlying9
theorem zero3 (w : World) : (zeroValue 3).run Tryz.prog w = .ok (.int .i64 0) w := by kernel_rfl
def WfI (x : Int) : Prop := (Lit.int .i64 x).wf = true
theorem own_keep {w w' : World} {k : TypeId} {R : Value → Option (DataW Unit × List MemPlace)} {mb n : Nat} {D : DataW Unit} (h : w.ownsMap Tryz.prog k R mb n D) (hk : w'.heap[mb]? = w.heap[mb]?) : w'.ownsMap Tryz.prog k R mb n D := by
  obtain ⟨es, cl, hb, rest⟩ := h
  exact ⟨es, cl, hk.trans hb, rest⟩

/-- How many bytes each was told. -/
structure NMap (w : World) (mb cnt : Nat) (es : List Ou) : Prop where
  ex : ∃ D : DataW Unit, w.ownsMap Tryz.prog 3 (plainElem Tryz.prog 3) mb cnt D ∧ ∀ id, WfI id → D.atKey (.int .i64 id) (.lit (.int .i64 0)) = .lit (.int .i64 (sumOf id es : Nat))
/-- Which have a head. -/
structure HMap (w : World) (mb cnt : Nat) (es : List Ou) : Prop where
  ex : ∃ D : DataW Unit, w.ownsMap Tryz.prog 3 (plainElem Tryz.prog 4) mb cnt D ∧ ∀ id, WfI id → Maps.has D (.int .i64 id) = decide (id ∈ idsH es)
section
variable {w w' : World} {mb cnt : Nat} {es : List Ou} {e : Ou}
theorem NMap.keep (h : NMap w mb cnt es) (hk : w'.heap[mb]? = w.heap[mb]?) : NMap w' mb cnt es := by
  obtain ⟨D, ho, ha⟩ := h.ex
  exact ⟨D, own_keep ho hk, ha⟩
theorem HMap.keep (h : HMap w mb cnt es) (hk : w'.heap[mb]? = w.heap[mb]?) : HMap w' mb cnt es := by
  obtain ⟨D, ho, ha⟩ := h.ex
  exact ⟨D, own_keep ho hk, ha⟩
theorem NMap.lt (h : NMap w mb cnt es) : mb < w.heap.size := by
  obtain ⟨D, ho, ha⟩ := h.ex
  exact ho.lt
theorem HMap.lt (h : HMap w mb cnt es) : mb < w.heap.size := by
  obtain ⟨D, ho, ha⟩ := h.ex
  exact ho.lt
theorem NMap.mono (h : NMap w mb cnt es) : NMap w mb (cnt + 1) es := by
  obtain ⟨D, ho, ha⟩ := h.ex
  exact ⟨D, ho.mono (Nat.le_succ _), ha⟩
theorem HMap.mono (h : HMap w mb cnt es) : HMap w mb (cnt + 1) es := by
  obtain ⟨D, ho, ha⟩ := h.ex
  exact ⟨D, ho.mono (Nat.le_succ _), ha⟩
theorem key3 {id : Int} (h : WfI id) : keyOf Tryz.prog 3 (.int .i64 id) = some (.int .i64 id) := Maps.keyOf_int_mk Tryz.underlying3 h
theorem NMap.look (h : NMap w mb cnt es) {id : Int} (hw : WfI id) : (Instr.lookup 50 (.map (some mb)) (.int .i64 id) false).run Tryz.prog w = .ok (.int .i64 (sumOf id es : Nat)) w := by
  obtain ⟨D, ho, ha⟩ := h.ex
  obtain ⟨c, hrun, hat, _⟩ := ho.lookup_int law3 Tryz.underlying50 Tryz.underlying3 (zero3 w) (key3 hw)
  rw [ha id hw] at hat
  have e : ((sumOf id es : Nat) : Int) = c := (Lit.int.inj (DataW.lit.inj hat)).2
  rw [e]
  exact hrun
/-- An update is a run. -/
theorem NMap.put (h : NMap w mb cnt es) (hc : cnt < 1000) (hk : e.k = 2) (hw : WfI e.id) (hs : sumOf e.id es + e.body.size ≤ 1000000) :
    ∃ w', (Instr.mapUpdate 50 (.map (some mb)) (.int .i64 e.id) (.int .i64 ((sumOf e.id es : Nat) + (e.body.size : Nat)))).run Tryz.prog w = .ok () w' ∧ NMap w' mb (cnt + 1) (es ++ [e]) ∧ w.grownBy w' (some mb) := by
  obtain ⟨D, ho, ha⟩ := h.ex
  have hm := ho.isMap
  obtain ⟨w', hrun, ho', hg⟩ := ho.update law3 Tryz.underlying50 (by unfold maxLen; omega) (key3 hw) (plainElem_int (a := ((sumOf e.id es : Nat) + (e.body.size : Nat) : Int)) (H := Unit) Tryz.underlying3 (WalkArith.wf_i64 (by omega)))
  refine ⟨w', hrun, ⟨_, ho', fun id hid => ?_⟩, hg⟩
  rw [sumOf_snoc]
  by_cases he : e.id = id
  · subst he
    rw [Maps.atKey_put_same (k := .int .i64 e.id) hm trivial, if_pos ⟨hk, rfl⟩]
    congr 2
  · rw [Maps.atKey_put_other (k := .int .i64 e.id) (k' := .int .i64 id) (fun h => he (Lit.int.inj h).2.symm), if_neg fun h => he h.2]
    exact ha id hid
theorem NMap.skip (h : NMap w mb cnt es) (hk : ¬ e.k = 2) : NMap w mb cnt (es ++ [e]) := by
  obtain ⟨D, ho, ha⟩ := h.ex
  refine ⟨D, ho, fun id hid => ?_⟩
  rw [sumOf_snoc, if_neg fun h => hk h.1]
  exact ha id hid
theorem idsH_snoc (es : List Ou) (e : Ou) : idsH (es ++ [e]) = idsH es ++ if e.k = 1 then [e.id] else [] := by
  unfold idsH
  rw [List.filter_append, List.map_append]
  by_cases h : e.k = 1 <;> simp [h]
theorem HMap.put (h : HMap w mb cnt es) (hc : cnt < 1000) (hk : e.k = 1) (hw : WfI e.id) :
    ∃ w', (Instr.mapUpdate 51 (.map (some mb)) (.int .i64 e.id) (.bool true)).run Tryz.prog w = .ok () w' ∧ HMap w' mb (cnt + 1) (es ++ [e]) ∧ w.grownBy w' (some mb) := by
  obtain ⟨D, ho, ha⟩ := h.ex
  have hm := ho.isMap
  obtain ⟨w', hrun, ho', hg⟩ := ho.update law3 Tryz.underlying51 (by unfold maxLen; omega) (key3 hw) (plainElem_bool (H := Unit) Tryz.underlying4 true)
  refine ⟨w', hrun, ⟨_, ho', fun id hid => ?_⟩, hg⟩
  rw [idsH_snoc, if_pos hk]
  by_cases he : e.id = id
  · subst he
    rw [Maps.has_put_same (k := .int .i64 e.id) hm trivial]
    simp
  · rw [Maps.has_put_other (k := .int .i64 e.id) (k' := .int .i64 id) (fun h => he (Lit.int.inj h).2.symm), ha id hid, decide_eq_decide, List.mem_append, List.mem_singleton]
    exact ⟨.inl, fun h => h.elim (fun h => h) fun h => absurd h.symm he⟩
theorem HMap.skip (h : HMap w mb cnt es) (hk : ¬ e.k = 1) : HMap w mb cnt (es ++ [e]) := by
  obtain ⟨D, ho, ha⟩ := h.ex
  refine ⟨D, ho, fun id hid => ?_⟩
  rw [idsH_snoc, if_neg hk, List.append_nil]
  exact ha id hid
/-- The keys, sorted, are the ids that have a head. -/
theorem HMap.sorted {D : DataW Unit} {es : List Ou} (ho : w.ownsMap Tryz.prog 3 (plainElem Tryz.prog 4) mb cnt D) (ha : ∀ id, WfI id → Maps.has D (.int .i64 id) = decide (id ∈ idsH es)) (hw : ∀ e ∈ es, WfI e.id) {ss : List Int} (hp : ss.Perm (intKeys D)) :
    Up (ss.mergeSort fun x y => decide (x ≤ y)) (idsH es) := by
  obtain ⟨es1, rfl, hk⟩ := ho.keysOf
  obtain ⟨es2, he2, hpw, _⟩ := ho.entries law3
  cases he2
  have hk' : ∀ p ∈ es1, ∃ x, p.1 = .int .i64 x ∧ WfI x := fun p hp => by
    obtain ⟨v, hv⟩ := hk p hp
    obtain ⟨x, _, hx, hw⟩ := Maps.keyOf_i64 Tryz.underlying3 hv
    exact ⟨x, hx, hw⟩
  have hnd : (intKeys (.map es1)).Nodup := by
    show (es1.map fun p => Go.intOf p.1).Nodup
    refine List.pairwise_map.2 (hpw.imp_of_mem fun {p q} hp' hq' hne e => hne ?_)
    obtain ⟨a, ha, _⟩ := hk' p hp'
    obtain ⟨b, hb, _⟩ := hk' q hq'
    rw [ha, hb] at e ⊢
    exact congrArg _ e
  have hmem : ∀ x, x ∈ intKeys (.map es1) ↔ x ∈ idsH es := by
    intro x
    show x ∈ es1.map (fun p => Go.intOf p.1) ↔ _
    rw [List.mem_map]
    constructor
    · rintro ⟨p, hp', rfl⟩
      obtain ⟨a, ha', hwa⟩ := hk' p hp'
      have h1 := ha a hwa
      rw [ha']
      show a ∈ _
      refine of_decide_eq_true (h1.symm.trans ?_)
      rw [Maps.has_eq, List.any_eq_true]
      exact ⟨p, hp', by rw [ha']; simp [Lit.sameKey]⟩
    · intro hx
      have hwx : WfI x := by
        unfold idsH at hx
        obtain ⟨e, he, rfl⟩ := List.mem_map.1 hx
        exact hw e (List.mem_filter.1 he).1
      have h1 := ha x hwx
      rw [decide_eq_true hx, Maps.has_eq, List.any_eq_true] at h1
      obtain ⟨p, hp', hs⟩ := h1
      obtain ⟨a, ha', _⟩ := hk' p hp'
      rw [ha'] at hs
      exact ⟨p, hp', by rw [ha']; simpa [Lit.sameKey, Go.intOf] using hs⟩
  have hp2 : (ss.mergeSort fun x y => decide (x ≤ y)).Perm (intKeys (.map es1)) := (List.mergeSort_perm _ _).trans hp
  refine ⟨?_, fun x => hp2.mem_iff.trans (hmem x)⟩
  have hs := List.pairwise_mergeSort (le := fun x y : Int => decide (x ≤ y)) (fun a b c h1 h2 => by simp at *; omega) (fun a b => by simp; omega) ss
  have hnd2 : (ss.mergeSort fun x y => decide (x ≤ y)).Nodup := hp2.nodup_iff.2 hnd
  refine (hs.and hnd2).imp fun {a b} h => ?_
  have h1 := of_decide_eq_true h.1
  have h2 := h.2
  omega
end
end Go.Proofs.YtkihgbglodfkmaaGreat
