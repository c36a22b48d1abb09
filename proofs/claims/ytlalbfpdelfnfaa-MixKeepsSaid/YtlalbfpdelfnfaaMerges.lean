/-
  Layer 43 (mix): what MixMerges' walk asks of plain lists, and of turns in memory. No condition; nothing is walked here.
-/
import Derived.Test.YtlalbfpdelfnfaaMerge
import Derived.Test.YtlalbfpdelfnfaaSameLM
import Derived.Test.YtlalbfpdelfnfaaOpen
namespace Go.Proofs.Ytlalbfpdelfnfaa
open Go.RowKit
set_option linter.unusedVariables false

/-- Who is not asked for gives nothing. -/
theorem body_mrg (id : Int) (ts : List Bool) (es fs : List Ev) (h : ∀ e ∈ fs, ¬ (e.k = 3 ∧ e.id = id)) : bodyL id (mrg ts es fs) = bodyL id es := by
  have none_ : ∀ (l : List Ev) (s : ByteArray), (∀ e ∈ l, ¬ (e.k = 3 ∧ e.id = id)) → l.foldl (fun s e => if e.k = 3 ∧ e.id = id then s ++ e.body else s) s = s := by
    intro l
    induction l with
    | nil => intro s _; rfl
    | cons a l ih =>
      intro s hl
      rw [List.foldl_cons, if_neg (hl a List.mem_cons_self)]
      exact ih s fun e he => hl e (List.mem_cons_of_mem _ he)
  have key : ∀ (s : ByteArray), (mrg ts es fs).foldl (fun s e => if e.k = 3 ∧ e.id = id then s ++ e.body else s) s = es.foldl (fun s e => if e.k = 3 ∧ e.id = id then s ++ e.body else s) s := by
    induction ts, es, fs using mrg.induct with
    | case1 ts fs => intro s; rw [mrg_nil', none_ _ _ h]; rfl
    | case2 ts a es => intro s; rw [mrg_nil]
    | case3 ts a es b fs hd ih =>
      intro s
      rw [mrg, if_pos hd, List.foldl_cons, List.foldl_cons]
      exact ih h _
    | case4 ts a es b fs hd ih =>
      intro s
      rw [mrg, if_neg hd, List.foldl_cons, if_neg (h b List.mem_cons_self)]
      exact ih (fun e he => h e (List.mem_cons_of_mem _ he)) s
  exact key _
theorem body_apart {id : Int} {ts : List Bool} {es fs : List Ev} (h : id ∉ idsR fs) : bodyL id (mrg ts es fs) = bodyL id es := by
  refine body_mrg id ts es fs fun e he hk => h ?_
  unfold idsR
  rw [List.mem_map]
  exact ⟨e, List.mem_filter.2 ⟨he, by simp [hk.1]⟩, hk.2⟩
theorem mrg_mem {ts : List Bool} {es fs : List Ev} : ∀ e ∈ mrg ts es fs, e ∈ es ∨ e ∈ fs := by
  induction ts, es, fs using mrg.induct with
  | case1 ts fs => intro e he; rw [mrg_nil'] at he; exact .inr he
  | case2 ts a es => intro e he; rw [mrg_nil] at he; exact .inl he
  | case3 ts a es b fs hd ih =>
    intro e he
    rw [mrg, if_pos hd] at he
    rcases List.mem_cons.1 he with rfl | he
    · exact .inl List.mem_cons_self
    · exact (ih e he).imp (List.mem_cons_of_mem _) (fun h => h)
  | case4 ts a es b fs hd ih =>
    intro e he
    rw [mrg, if_neg hd] at he
    rcases List.mem_cons.1 he with rfl | he
    · exact .inr List.mem_cons_self
    · exact (ih e he).imp (fun h => h) (List.mem_cons_of_mem _)

/-- A list cut once, to so many. -/
structure Cutm (m : Nat) (es : List Ev) : Prop where
  twice : fewL es m = es
  fine : ∀ e ∈ es, FineE e
  hs : ∀ e ∈ es, e.hs.length ≤ 1000000
  body : ∀ e ∈ es, e.body.size ≤ 100000
  len : es.length ≤ m
theorem fewL_cutm (es : List Ev) (m : Nat) : Cutm m (fewL es m) := ⟨fewL_twice es m, fewL_fine es m, fun e he => Nat.le_trans (fewL_hs es m e he) (by decide), fun e he => by
  obtain ⟨x, _, rfl⟩ := List.mem_map.1 he
  exact Nat.le_trans (ext_le _ _) (by decide), fewL_len es m⟩
theorem fewm {w : World} {lo m : Nat} {v : Value} {es : List Ev} (h : Evs w lo v es.length es) (hc : Cutm m es) (hm : m ≤ 1000) :
    Calls Try.prog 6 #[v, .int .i64 m] w fun o w' => ∃ A c, o = .returned (.slice A es.length c) ∧ Outs w' w.heap.size w.heap.size (.slice A es.length c) es.length es ∧ Below w.heap.size w w' := by
  have := few_any h.inn hc.fine m hm
  rw [hc.twice] at this
  exact this
/-- The first of some turns. -/
theorem Tn.take {w : World} {g off n cap p : Nat} {ts : List Bool} (h : Tn w (.slice (some ⟨g, off, none⟩) n cap) n ts) (hp : p ≤ n) : Tn w (.slice (some ⟨g, off, none⟩) p cap) p (ts.take p) := by
  have hl := h.len
  by_cases h0 : p = 0
  · subst h0
    exact ⟨by simp, Nat.zero_le _, .inl ⟨rfl, _, _, rfl, fun h => by cases h⟩⟩
  · rcases h.at_ with ⟨h1, _⟩ | ⟨g', off', cap', hv, h1, h2, h3, h4, hx⟩
    · omega
    · cases hv
      refine ⟨by simp; omega, by omega, .inr ⟨g, off, cap, rfl, h1, h2, by omega, h4, fun j u hj => hx j u ?_⟩⟩
      rw [List.map_take, List.getElem?_take] at hj
      split at hj
      · exact hj
      · cases hj
end Go.Proofs.Ytlalbfpdelfnfaa
