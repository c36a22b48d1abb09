/-
  Layer 43 (mix): what Cut's walk asks for: stores and appends within a round, what a list of events keeps, and the way out behind many loops. No condition.
-/
import Derived.Test.YtlalbfpdelfnfaaPieces
namespace Go.Proofs.Ytlalbfpdelfnfaa
open Go.RowKit Go.Shelf
set_option linter.unusedVariables false

theorem wpListIn_push' {F : Fence} {n : Nat} {ops : Array Oper} {rest : List Oper} {o : Oper} {a : Act} {w : World} {Q : Exit → Act → World → Prop} (hgd : o.guard = none) (s x : Operand)
    (ho : o.op = .call { callee := .builtin .append, args := #[s, x], argTypes := #[22, 22] }) {B lo H : Nat} {A : Option Addr} {c j : Nat} {os : List Ev} {wr : World} {e : Ev} (hP : Pushing w B lo A c j os wr e) (hH : wr.heap.size = H)
    (hs : a.eval s = .slice A j c) (hx : a.eval x = .slice (some ⟨H, 0, none⟩) 1 1)
    (k : ∀ A' c' w', Outs w' B lo (.slice A' (j + 1) c') (j + 1) (os ++ [e]) → w.grownBy w' (Value.slice A j c).ownBlock → (∀ r, (Value.slice A' (j + 1) c').ownBlock = some r → (Value.slice A j c).ownBlock = some r ∨ w.heap.size ≤ r) → wpListIn F n Try.prog ops Q rest (a.put o.dst (.slice A' (j + 1) c')) w') : wpListIn F n Try.prog ops Q (o :: rest) a w := by
  subst hH
  obtain ⟨i0, hi, ⟨z, hz, hzc⟩, hsz, hby⟩ := infoE'
  obtain ⟨xs, ys, h1, h2, h3⟩ := hP.ex
  refine wpListIn_plain hgd fun K hK' => ?_
  obtain ⟨A', c', w', hrun, r1, r2, r3⟩ := run_append_rk (P := Try.prog) w B 22 o.type 32 i0 z 9 Try.underlying22 hi hz hsz hby hzc _ j xs h1 _ 1 ys h2 hP.few hP.size
  unfold Oper.wpIn
  refine ⟨?_, ?_⟩
  · simp [Oper.about, ho, resolve, Target.leads, Sem.run_pure]
  · rw [Oper.semAt_plain F _ _ (by rw [ho]; intro c hc'; cases hc')]
    simp [execOp, ho, resolve, invoke, builtin, hs, hx, hrun, Result.andThen]
    exact hK' _ _ (k A' c' w' (h3 A' c' w' r1 r2).1 r2 r3)
theorem wpListIn_store_ev {F : Fence} {n : Nat} {ops : Array Oper} {rest : List Oper} {o : Oper} {a : Act} {w : World} {Q : Exit → Act → World → Prop} (hgd : o.guard = none) (x y : Operand) (ho : o.op = .store 32 x y)
    (g : Nat) (e0 : Ev) (hv0 : Value) (hF : EvRow w g e0 hv0) (e : Ev) (hv : Value) (h1 : hv.oneCell' = true) (hx : a.eval x = .pointer (some ⟨g, 0, none⟩))
    (hy : a.eval y = evv e hv)
    (h : ∀ w2, EvRow w2 g e hv → (∀ B a, Below B a w → B ≤ g → Below B a w2) → (w2.heap.size = w.heap.size ∧ ∀ j, j ≠ g → w2.heap[j]? = w.heap[j]?) → wpListIn F n Try.prog ops Q rest (a.put o.dst undef) w2) : wpListIn F n Try.prog ops Q (o :: rest) a w := by
  refine wpListIn_plain hgd fun K hK' => ?_
  have hrun := run_storeVar_row (P := Try.prog) w g 32 32 _ #[.int .i64 e.k, .int .i64 e.id, .string e.url, .string e.frm, .string e.mode, .int .i64 e.med, .int .i64 e.st, hv, .string e.body] hF info32 rfl (by have h2 := h1; unfold Value.oneCell' at h2 ⊢; simpa using h2)
  unfold Oper.wpIn
  refine ⟨?_, ?_⟩
  · simp [Oper.about, ho]
  · rw [Oper.semAt_plain F _ _ (by rw [ho]; intro c hc'; cases hc')]
    simp only [execOp, ho, hx, hy, Instr.storeAt, Instr.sureAddr, Sem.run_bind, Sem.run_pure, Result.andThen_ok, hrun]
    exact hK' _ _ (h _ (setRow_heap w g _ _ 32 (0, 0) hF) (fun B a hb hg => below_setRow hb hg _) ⟨setRow_size w g _, fun j hj => setRow_other w g j _ hj⟩)

/-- A list of events, where blocks of other types have turned. -/
theorem Outs.turn {w w' : World} {B lo n : Nat} {v : Value} {es : List Ev} (h : Outs w B lo v n es) (hs : w.heap.size ≤ w'.heap.size)
    (ht : ∀ b, b < w.heap.size → w'.heap[b]? = w.heap[b]? ∨ (B ≤ b ∧ ∀ cs t m, w.heap[b]? = some (.cells cs t m) → t ≠ 32 ∧ t ≠ 34)) : Outs w' B lo v n es := by
  obtain ⟨ps, h1, h2, h3, h4⟩ := h
  refine ⟨ps, h1, h2, h3.keep fun j hj => ?_, fun p hp => ?_⟩
  · obtain ⟨hB, cs, m, hc⟩ := h3.typed j hj
    rcases ht j (blk_lt hc) with h | ⟨_, h⟩
    · exact h
    · exact absurd rfl (h cs 32 m hc).1
  · obtain ⟨⟨hr, hl⟩, ha⟩ := h4 p hp
    have hne : ∀ j, p.2.ownBlock = some j → w'.heap[j]? = w.heap[j]? := fun j hj => by
      rcases ht j (hl j hj) with h | ⟨h5, h6⟩
      · exact h
      · rcases ha j hj with h7 | ⟨cs, m, hc⟩
        · omega
        · exact absurd rfl (h6 cs 34 _ hc).2
    exact ⟨⟨Rd.keep hr hs hne, fun j hj => Nat.lt_of_lt_of_le (hl j hj) hs⟩, fun j hj => (ha j hj).imp id fun ⟨cs, m, hc⟩ => ⟨cs, m, (hne j hj).trans hc⟩⟩

/-- Out of a function behind many loops over functions: the marks on its deferred calls are taken, one by one. -/
theorem leaves_marks {fn : Func} {tmps : Array Value} {R : Ending → World → Prop} {B : Nat} : ∀ (Ds : List Nat) (W : World), (∀ D ∈ Ds, B ≤ D ∧ W.heap[D]? = some (.deferred (some []))) → Ds.Nodup →
    (∀ W', Below B W W' → (∀ (b : Nat) (o : Obj), W.heap[b]? = some o → o.isCells = true → W'.heap[b]? = some o) → W'.heap.size = W.heap.size → LeavesIn Fence.wide 9 Try.prog fn tmps R [] .returning W') →
    LeavesInM Fence.wide 9 Try.prog fn tmps R (Ds.map fun D => { target := .collected D, args := #[] }) .returning W
  | [], W, _, _, h => h W (Below.refl _ _) (fun _ _ h _ => h) rfl
  | D :: Ds, W, hD, hn, h => by
    obtain ⟨hB, hh⟩ := hD D (by simp)
    refine ⟨by simp, .inl ⟨D, _, rfl, run_takeDeferred hh, ?_⟩⟩
    have hlt : D < W.heap.size := (Array.getElem?_eq_some_iff.1 hh).1
    have hb : Below B W (W.putObj D (.deferred none)) := ⟨rfl, rfl, rfl, by simp [World.putObj], fun k hk => World.putObj_heap_other (by omega)⟩
    refine leaves_marks Ds (W.putObj D (.deferred none)) (fun E hE => ⟨(hD E (by simp [hE])).1, ?_⟩) (List.nodup_cons.1 hn).2 fun W' hb' hc' hs' => h W' (hb.trans hb') (fun b o ho hco => hc' b o ?_ hco) (by rw [hs']; simp [World.putObj])
    · have hne : E ≠ D := fun e => (List.nodup_cons.1 hn).1 (e ▸ hE)
      exact (World.putObj_heap_other hne).trans (hD E (by simp [hE])).2
    · have hne : b ≠ D := fun e => by
        subst e
        rw [hh] at ho
        cases ho
        cases hco
      exact (World.putObj_heap_other hne).trans ho
theorem wpList_pushG {ops : Array Oper} {rest : List Oper} {o : Oper} {a : Act} {w : World} {Q : Exit → Act → World → Prop} (hgd : o.guard = none) (s x : Operand)
    (ho : o.op = .call { callee := .builtin .append, args := #[s, x], argTypes := #[22, 22] }) {B lo H : Nat} {A : Option Addr} {c j : Nat} {os : List Ev} {wr : World} {e : Ev} (hP : Pushing w B lo A c j os wr e) (hH : wr.heap.size = H)
    (hs : a.eval s = .slice A j c) (hx : a.eval x = .slice (some ⟨H, 0, none⟩) 1 1)
    (k : ∀ A' c' w', Outs w' B lo (.slice A' (j + 1) c') (j + 1) (os ++ [e]) → w.grownBy w' (Value.slice A j c).ownBlock → wpList Try.prog ops Q rest (a.put o.dst (.slice A' (j + 1) c')) w') : wpList Try.prog ops Q (o :: rest) a w := by
  subst hH
  obtain ⟨i0, hi, ⟨z, hz, hzc⟩, hsz, hby⟩ := infoE'
  obtain ⟨xs, ys, h1, h2, h3⟩ := hP.ex
  exact wpList_append_rk hgd s x 22 ho B 32 i0 z 9 Try.underlying22 hi hz hsz hby hzc _ j xs hs h1 _ 1 ys hx h2 hP.few hP.size fun A' c' w' hr hg _ => k A' c' w' (h3 A' c' w' hr hg).1 hg
theorem step_pushG {ops : Array Oper} {o : Oper} {a : Act} {w : World} {K : Act → World → Prop} {Q : Exit → Act → World → Prop} {E : Prop} (hgd : o.guard = none) (s x : Operand)
    (ho : o.op = .call { callee := .builtin .append, args := #[s, x], argTypes := #[22, 22] }) {B lo H : Nat} {A : Option Addr} {c j : Nat} {os : List Ev} {wr : World} {e : Ev} (hP : Pushing w B lo A c j os wr e) (hH : wr.heap.size = H)
    (hs : a.eval s = .slice A j c) (hx : a.eval x = .slice (some ⟨H, 0, none⟩) 1 1)
    (k : ∀ A' c' w', Outs w' B lo (.slice A' (j + 1) c') (j + 1) (os ++ [e]) → w.grownBy w' (Value.slice A j c).ownBlock → K (a.put o.dst (.slice A' (j + 1) c')) w') :
    if Region.wanted o (yielded ops a.tmps) = true then Oper.wp Try.prog o a w K Q else E := by
  subst hH
  obtain ⟨i0, hi, ⟨z, hz, hzc⟩, hsz, hby⟩ := infoE'
  obtain ⟨xs, ys, h1, h2, h3⟩ := hP.ex
  exact step_append_rk hgd s x 22 ho B 32 i0 z 9 Try.underlying22 hi hz hsz hby hzc _ j xs hs h1 _ 1 ys hx h2 hP.few hP.size fun A' c' w' hr hg _ => k A' c' w' (h3 A' c' w' hr hg).1 hg
theorem pieces_any (kn : Nat) (s : ByteArray) (w : World) :
    Calls Try.prog 27 #[.pointer (some ⟨kn, 0, none⟩), .string s] w fun e w' => e = .returned (.func (.func 43) #[] #[.pointer (some ⟨w.heap.size + 1, 0, none⟩), .pointer (some ⟨w.heap.size, 0, none⟩)]) ∧ (w.alloc (.cells #[.pointer (some ⟨kn, 0, none⟩)] 52)).alloc (.cells #[.string s] 9) = w' := by
  go_enter Try.func27, Try.ntmps27
  go_wp2
  go_ret
  exact ⟨rfl, rfl⟩
end Go.Proofs.Ytlalbfpdelfnfaa
