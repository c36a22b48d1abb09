/-
  Parts, one behind the other: Layer 2 (trap) and a cursor at a text shorter than four bytes: the panic, and its catching. | Layers 2, 14: a number read behind a trap at a text shorter than four bytes: there is none. | Layers 2, 14: mp4's size at a text shorter than four bytes: none. | Layers 2, 14: mp4's size at a text of four bytes or more. | Layers 2, 14: mp4's size at a text of four bytes or more: great at a text whose first byte is not small. | Layers 2, 14: mp4's size at a text of four bytes or more: the value of its first bytes. | Layers 14, 17, 18: no film of mp4, webm or mp3 begins like a plain text.
-/
import Derived.Test.YtlhaaokldjdnnaaGreatDoorMediaAll
import Derived.Recover
import Derived.WalkSmall
import Derived.Test.YtlhaaokldjdnnaaGreatDoorEvCatchAll
namespace Go.Proofs.YtlhaaokldjdnnaaGreatDoor
open Go.RowKit
set_option linter.unusedVariables false
set_option linter.unusedSimpArgs false
set_option linter.all false

/-- The panic of package trap. -/
def dying (a k : Int) : List PanicEntry := [{ v := .iface 151 (.agg #[.int .i64 a, .int .i64 k]), recovered := false }]
theorem throw_dies (a k : Int) (hk : ¬ k = 0) (w : World) : Calls Tryz.prog 198 #[.int .i64 a, .int .i64 k] w fun e w' => e = .panicked (dying a k) ∧ w = w' := by
  go_enter Tryz.func198, Tryz.ntmps198
  go_wp2
  exact ⟨rfl, rfl, rfl⟩
theorem check_dies (a k : Int) (hk : ¬ k = 0) (w : World) : Calls Tryz.prog 142 #[.bool false, .int .i64 a, .int .i64 k] w fun e w' => e = .panicked (dying a k) ∧ w = w' := by
  have H := Lib.hid (throw_dies a k hk w)
  clear hk
  go_enter Tryz.func142, Tryz.ntmps142
  go_wp2_with (go_at_call 198; refine H.out.mono ?_; rintro e _ ⟨rfl, rfl⟩)
  exact ⟨rfl, rfl, rfl⟩
theorem check_yes (a k : Int) (w : World) : Calls Tryz.prog 142 #[.bool true, .int .i64 a, .int .i64 k] w fun e w' => e = .returned (.tuple #[]) ∧ w = w' := by
  go_enter Tryz.func142, Tryz.ntmps142
  go_wp2
  go_end0
  exact ⟨rfl, rfl⟩
/-- A cursor at the beginning of a text. -/
def CurIs (w : World) (g : Nat) (s : ByteArray) : Prop := w.heap[g]? = some (.cells #[.string s, .int .i64 0] 275)
theorem crest_is (s : ByteArray) (g : Nat) (w : World) (hs : s.size ≤ 1000) (h : CurIs w g s) : Calls Tryz.prog 350 #[.pointer (some ⟨g, 0, none⟩)] w fun e w' => e = .returned (.string s) ∧ Below w.heap.size w w' := by
  have c0 : w.cell? ⟨g, 0, none⟩ = some (.string s) := cell_of_row w _ 0 _ _ _ h
  have c1 : w.cell? ⟨g, 1, none⟩ = some (.int .i64 0) := cell_of_row w _ 1 _ _ _ h
  have hx := extract_all s s.size (Nat.le_refl _)
  have hp : ∀ w : World, (binOp BinOp.eql 227 (.pointer (some ⟨g, 0, none⟩)) (.pointer none)).run Tryz.prog w = .ok (.bool false) w := fun w => by
    first | kernel_rfl | simp [go_sem, binOp, Op.equal, Op.equalIn, run_under Tryz.underlying227]
  go_enter Tryz.func350, Tryz.ntmps350
  go_wp2
  go_quiet (fail)
  go_wp2
  go_ret
  exact ⟨ret_string (by first | exact hx | simp), below_drewN (Below.refl _ _) _⟩
set_option maxRecDepth 100000 in
theorem ctake_dies (s : ByteArray) (g : Nat) (w : World) (hs : s.size < 4) (h : CurIs w g s) : Calls Tryz.prog 358 #[.pointer (some ⟨g, 0, none⟩), .int .i64 4] w fun e w' => e = .panicked (dying 0 8) ∧ Below w.heap.size w w' := by
  have HR := Lib.hid (crest_is s g w (by omega) h)
  have HY := Lib.hid check_yes
  have HD := Lib.hid (check_dies 0 8 (by decide))
  have HG := Lib.hid h
  have i1 : decide ((4 : Int) ≤ (s.size : Int)) = false := by simp; omega
  have hp : ∀ w : World, (binOp BinOp.neq 227 (.pointer (some ⟨g, 0, none⟩)) (.pointer none)).run Tryz.prog w = .ok (.bool true) w := fun w => by kernel_rfl
  clear h
  go_enter Tryz.func358, Tryz.ntmps358
  go_wp2_with (first
    | (go_at_call 350; refine HR.out.mono ?_; rintro e w1 ⟨rfl, hb1⟩; have c1 : w1.cell? ⟨g, 1, none⟩ = some (.int .i64 0) := cell_of_row w1 _ 1 _ _ _ ((hb1.block g (blk_lt HG.out)).trans HG.out); have HB1 := Lib.hid hb1; clear hb1)
    | (go_at_call 142; with_reducible refine (HY.out _ _ _).mono ?_; rintro e _ ⟨rfl, rfl⟩)
    | (go_at_call 142; with_reducible refine (HD.out _).mono ?_; rintro e _ ⟨rfl, rfl⟩))
  exact ⟨rfl, rfl, HB1.out⟩
theorem u32_dies (s : ByteArray) (g : Nat) (w : World) (hs : s.size < 4) (h : CurIs w g s) : Calls Tryz.prog 472 #[.pointer (some ⟨g, 0, none⟩)] w fun e w' => e = .panicked (dying 0 8) ∧ Below w.heap.size w w' := by
  have HT := Lib.hid (ctake_dies s g w hs h)
  clear h
  go_enter Tryz.func472, Tryz.ntmps472
  go_wp2_with (go_at_call 358; refine HT.out.mono ?_; rintro e w1 ⟨rfl, hb1⟩; have HB1 := Lib.hid hb1; clear hb1)
  exact ⟨rfl, rfl, HB1.out⟩

set_option maxRecDepth 100000 in
theorem vbody_dies (s : ByteArray) (g : Nat) (p q : Addr) (w : World) (hs : s.size < 4) (h : CurIs w g s) (hp : w.cell? p = some (.func (.func 472) #[.pointer (some ⟨g, 0, none⟩)] #[])) :
    Calls Tryz.prog 477 #[.pointer (some p), .pointer (some q)] w fun e w' => e = .panicked (dying 0 8) ∧ Below w.heap.size w w' := by
  have HT := Lib.hid (u32_dies s g w hs h)
  clear h
  go_enter Tryz.func477, Tryz.ntmps477
  go_wp2_with (go_at_call 472; refine HT.out.mono ?_; rintro e w1 ⟨rfl, hb1⟩; have HB1 := Lib.hid hb1; clear hb1)
  exact ⟨rfl, rfl, HB1.out⟩
set_option maxRecDepth 100000 in
theorem told_is (a k : Int) (w : World) : Calls Tryz.prog 197 #[.iface 151 (.agg #[.int .i64 a, .int .i64 k])] w fun e w' => e = .returned (.agg #[.int .i64 a, .int .i64 k]) ∧ Below w.heap.size w w' := by
  have hta : ∀ w : World, (Instr.typeAssert (.iface 151 (.agg #[.int .i64 a, .int .i64 k])) 20 151 true).run Tryz.prog w = .ok (.tuple #[.agg #[.int .i64 a, .int .i64 k], .bool true]) w := fun _ => by kernel_rfl
  go_enter Tryz.func197, Tryz.ntmps197
  go_wp2
  refine bodyPost_ret (v := .agg #[.int .i64 a, .int .i64 k]) (by simp [results, Tryz.results197, go_sem]) rfl ⟨rfl, ?_⟩
  go_grown
end Go.Proofs.YtlhaaokldjdnnaaGreatDoor
namespace Go.Proofs.YtlhaaokldjdnnaaGreatDoor
open Go.RowKit Ev
set_option linter.unusedVariables false
set_option linter.unusedSimpArgs false
set_option linter.all false

/-- The deferred function of trap.catch, behind a function that panicked. -/
theorem caught_dies (a k : Int) (p q : Nat) (older : List PanicEntry) (w : World) (hp : ∃ x y, w.heap[p]? = some (.cells #[x, y] 151 (0, 0))) (hq : ∃ x, w.heap[q]? = some (.cells #[x] 4 (0, 0))) :
    CallsD Tryz.prog 196 #[.pointer (some ⟨p, 0, none⟩), .pointer (some ⟨q, 0, none⟩)] (.panicking ({ v := .iface 151 (.agg #[.int .i64 a, .int .i64 k]), recovered := false } :: older)) w fun e u' w' =>
      e = .returned (.tuple #[]) ∧ u' = .panicking ({ v := .iface 151 (.agg #[.int .i64 a, .int .i64 k]), recovered := true } :: older) ∧
      w'.heap[p]? = some (.cells #[.int .i64 a, .int .i64 k] 151 (0, 0)) ∧ w'.heap[q]? = some (.cells #[.bool true] 4 (0, 0)) ∧ (∀ j, j ≠ p → j ≠ q → j < w.heap.size → w'.heap[j]? = w.heap[j]?) ∧ w.heap.size ≤ w'.heap.size ∧ w'.os = w.os ∧ w'.tape = w.tape ∧ w'.output = w.output := by
  have hneq : ∀ (v : Value) (w : World), (binOp BinOp.neq 20 (.iface 151 v) .nilIface).run Tryz.prog w = .ok (.bool true) w := fun _ _ => by kernel_rfl
  have HT := Lib.hid (told_is a k)
  obtain ⟨x, y, hp⟩ := hp
  obtain ⟨z, hq⟩ := hq
  have HP := Lib.hid hp
  have HQ := Lib.hid hq
  clear hp hq
  refine callsD_of_wpS Tryz.func196 rfl fun c₀ cs hu => ?_
  apply wpS_seq
  apply wpS_region
  simp [wpOpsS, go_sem, recoverD, hu, Tryz.ntmps196, Exit.thenS]
  apply wpS_seq
  apply wpS_region
  simp [wpOpsS, go_sem, Exit.thenS, hneq]
  refine wpS_cond (t := true) (by simp [Act.eval, Array.replicate]) ?_
  simp only [if_true]
  refine wpS_of_wp ?_
  have hpq : p ≠ q := by rintro rfl; have := HP.out; rw [HQ.out] at this; simp at this
  have hqp : q ≠ p := fun e => hpq e.symm
  go_wp2_with (go_at_call 197; refine (HT.out _).mono ?_; rintro e w1 ⟨rfl, hb1⟩; have HP1 := Lib.hid ((hb1.block p (blk_lt HP.out)).trans HP.out); have HQ1 := Lib.hid ((hb1.block q (blk_lt HQ.out)).trans HQ.out); have c0 : w1.cell? ⟨p, 0, none⟩ = some x := cell_of_row w1 p 0 _ _ _ HP1.out; have c1 : w1.cell? ⟨p, 1, none⟩ = some y := cell_of_row w1 p 1 _ _ _ HP1.out; have f0 := blk_frozen HP1.out 0; have f1 := blk_frozen HP1.out 1; have f2 := blk_frozen HQ1.out 0; have hq2 := (Below.heap_setCell (w1.setCell ⟨p, 0, none⟩ (.int .i64 a)) ⟨p, 1, none⟩ (.int .i64 k) q hqp).trans ((Below.heap_setCell w1 ⟨p, 0, none⟩ (.int .i64 a) q hqp).trans HQ1.out); have c2 : ((w1.setCell ⟨p, 0, none⟩ (.int .i64 a)).setCell ⟨p, 1, none⟩ (.int .i64 k)).cell? ⟨q, 0, none⟩ = some z := cell_of_row _ q 0 _ _ _ hq2; have HQ2 := Lib.hid hq2; clear hq2; have HB1 := Lib.hid hb1; clear hb1)
  simp [bodyPostS, results, Tryz.results196]
  refine ⟨(Below.heap_setCell _ ⟨q, 0, none⟩ _ p hpq).trans (blk_set (blk_set HP1.out 0 _) 1 _), blk_set HQ2.out 0 _, fun j h1 h2 h3 => (Below.heap_setCell _ ⟨q, 0, none⟩ _ j h2).trans ((Below.heap_setCell _ ⟨p, 1, none⟩ _ j h1).trans ((Below.heap_setCell _ ⟨p, 0, none⟩ _ j h1).trans (HB1.out.block j h3))), HB1.out.size, HB1.out.os, HB1.out.tape, HB1.out.output⟩
set_option maxRecDepth 100000 in
/-- trap.catch at a function that panics of package trap. -/
theorem catch_dies {g : Nat} {caps : Array Value} {w : World} {a k : Int}
    (hcf : ∀ w, (callFunc g caps).run Tryz.prog w = .ok (.enter g caps) w)
    (hcall : Calls Tryz.prog g caps ((w.alloc (.cells #[.int .i64 0, .int .i64 0] 151)).alloc (.cells #[.bool false] 4)) fun e w3 => e = .panicked (dying a k) ∧ Below (w.heap.size + 2) ((w.alloc (.cells #[.int .i64 0, .int .i64 0] 151)).alloc (.cells #[.bool false] 4)) w3) :
    Calls Tryz.prog 138 #[.func (.func g) #[] caps] w fun e w4 => e = .returned (.tuple #[.agg #[.int .i64 a, .int .i64 k], .bool true]) ∧ Below w.heap.size w w4 := by
  have hmf : ∀ (fn : Fn) (first cap : Array Value) (w : World), (Instr.makeFunc fn first cap).run Tryz.prog w = .ok (.func fn first cap) w := fun _ _ _ _ => rfl
  have hnil : ∀ w : World, (binOp BinOp.eql 1 (.func (.func g) #[] caps) .nilFunc).run Tryz.prog w = .ok (.bool false) w := fun w => by
    have hE : (Op.equal 1 (.func (.func g) #[] caps) .nilFunc).run Tryz.prog w = .ok false w := by
      have H : ∀ d : Nat, (Op.equalIn (d + 1) 1 (.func (.func g) #[] caps) .nilFunc).run Tryz.prog w = .ok false w := fun d => by simp [Op.equalIn, run_under Tryz.underlying1]
      exact H 9999
    simp only [binOp, Sem.run_bind, hE]; rfl
  go_enter_defers Tryz.func138, Tryz.ntmps138
  refine wp_seq (wp_region_list ?_)
  simp [wpList, Oper.wp, go_sem, Exit.then]
  repeat apply Or.inl
  refine wp_seq (wp_seq (wp_region_list ?_))
  simp [wpList, Oper.wp, go_sem, hnil, Exit.then]
  repeat apply Or.inl
  refine wp_cond (t := false) (by simp [Act.eval, Array.replicate]) ?_
  simp only [Bool.false_eq_true, if_false]
  refine wp_skip ?_
  simp only [Exit.then]
  refine wp_seq (wp_region_list ?_)
  simp [wpList, Oper.wp, go_sem, hmf, Exit.then]
  repeat apply Or.inl
  refine wp_seq (wp_region_list ?_)
  simp [wpList, Oper.wp, go_sem, Exit.then]
  repeat apply Or.inl
  rw [hcf]
  refine Calls.mono hcall fun e w3 hh => ?_
  obtain ⟨rfl, hb⟩ := hh
  have k1 : w3.heap[w.heap.size]? = some (.cells #[.int .i64 0, .int .i64 0] 151) := by
    rw [hb.block _ (by omega), Below.heap_alloc _ _ _ (by simp)]
    exact heap_alloc_new w _
  have k2 : w3.heap[w.heap.size + 1]? = some (.cells #[.bool false] 4) := by
    rw [hb.block _ (by omega)]
    have := heap_alloc_new (w.alloc (.cells #[.int .i64 0, .int .i64 0] 151)) (.cells #[.bool false] 4)
    rwa [World.size_alloc] at this
  show Leaves _ _ _ _ _ _ _
  refine leaves_cons (f := 196) (args := #[.pointer (some ⟨w.heap.size, 0, none⟩), .pointer (some ⟨w.heap.size + 1, 0, none⟩)]) (by simp) (by simp [go_sem]) ?_
  refine (caught_dies a k w.heap.size (w.heap.size + 1) [] w3 ⟨_, _, k1⟩ ⟨_, k2⟩).mono ?_
  rintro e u' w'' ⟨rfl, rfl, q1, q2, q3, q4, q5, q6, q7⟩
  have d0 : w''.cell? ⟨w.heap.size, 0, none⟩ = some (.int .i64 a) := cell_of_row w'' _ 0 _ _ _ q1
  have d1 : w''.cell? ⟨w.heap.size, 1, none⟩ = some (.int .i64 k) := cell_of_row w'' _ 1 _ _ _ q1
  have d2 : w''.cell? ⟨w.heap.size + 1, 0, none⟩ = some (.bool true) := cell_of_row w'' _ 0 _ _ _ q2
  simp [Leaves, settle, results, Tryz.results138, go_sem, d0, d1, d2]
  have hz : w.heap.size + 2 ≤ w3.heap.size := by have := hb.size; simp at this; omega
  exact ⟨q5.trans hb.os, q6.trans hb.tape, q7.trans hb.output, by omega, fun j hj => (q3 j (by omega) (by omega) (by omega)).trans ((hb.block j (by omega)).trans ((Below.heap_alloc _ _ _ (by simp; omega)).trans (Below.heap_alloc _ _ _ hj)))⟩
end Go.Proofs.YtlhaaokldjdnnaaGreatDoor
namespace Go.Proofs.YtlhaaokldjdnnaaGreatDoor
open Go.RowKit
set_option linter.unusedVariables false
set_option linter.unusedSimpArgs false
set_option linter.all false

set_option maxRecDepth 100000 in
theorem value_short (s : ByteArray) (g : Nat) (w : World) (hs : s.size < 4) (h : CurIs w g s) : Calls Tryz.prog 471 #[.func (.func 472) #[.pointer (some ⟨g, 0, none⟩)] #[]] w fun e w' => e = .returned (.tuple #[.int .u32 0, .agg #[.int .i64 0, .int .i64 8]]) ∧ Below w.heap.size w w' := by
  have hmf : ∀ (fn : Fn) (first cap : Array Value) (w : World), (Instr.makeFunc fn first cap).run Tryz.prog w = .ok (.func fn first cap) w := fun _ _ _ _ => rfl
  have hnil : ∀ w : World, (binOp BinOp.eql 404 (.func (.func 472) #[.pointer (some ⟨g, 0, none⟩)] #[]) .nilFunc).run Tryz.prog w = .ok (.bool false) w := fun w => by
    have hE : (Op.equal 404 (.func (.func 472) #[.pointer (some ⟨g, 0, none⟩)] #[]) .nilFunc).run Tryz.prog w = .ok false w := by
      have H : ∀ d : Nat, (Op.equalIn (d + 1) 404 (.func (.func 472) #[.pointer (some ⟨g, 0, none⟩)] #[]) .nilFunc).run Tryz.prog w = .ok false w := fun d => by simp [Op.equalIn, Ev.run_under Tryz.underlying404]
      exact H 9999
    simp only [binOp, Sem.run_bind, hE]; rfl
  have HG := Lib.hid h
  clear h
  have HW : Hid (∀ w2 : World, Below w.heap.size w w2 → ∀ p q : Addr, w2.cell? p = some (.func (.func 472) #[.pointer (some ⟨g, 0, none⟩)] #[]) → Calls Tryz.prog 138 #[.func (.func 477) #[] #[.pointer (some p), .pointer (some q)]] w2 fun e w4 => e = .returned (.tuple #[.agg #[.int .i64 0, .int .i64 8], .bool true]) ∧ Below w2.heap.size w2 w4) := by
    intro w2 hb p q hp
    have hb2 := ((Below.refl w2.heap.size w2).alloc (Nat.le_refl _) (.cells #[.int .i64 0, .int .i64 0] 151)).alloc (by simp) (.cells #[.bool false] 4)
    refine catch_dies (fun w => by kernel_rfl) ?_
    refine (vbody_dies s g p q _ hs ?_ ?_).mono ?_
    · exact (hb2.block g (Nat.lt_of_lt_of_le (blk_lt HG.out) hb.size)).trans ((hb.block g (blk_lt HG.out)).trans HG.out)
    · exact (World.cell?_of_block (hb2.block p.block (lt_of_cell hp))).trans hp
    · rintro e w3 ⟨rfl, hb3⟩
      exact ⟨rfl, by simpa using hb3⟩
  go_enter Tryz.func471, Tryz.ntmps471
  go_wp2_with (go_at_call 138; refine (HW.out _ (by go_grown) _ _ (by first | rfl | simp [go_sem])).mono ?_; rintro e w1 ⟨rfl, hb1⟩; have hr3 : w1.heap[w.heap.size + 1]? = some (.cells #[.int .i64 0, .int .i64 0] 151) := (by
        rw [hb1.block _ (by simp), Below.heap_alloc _ _ _ (by simp)]
        have := heap_alloc_new (w.alloc (.cells #[.func (.func 472) #[.pointer (some ⟨g, 0, none⟩)] #[]] 404)) (.cells #[.int .i64 0, .int .i64 0] 151)
        rwa [World.size_alloc] at this); have hlt3 := blk_lt hr3; have c0 : w1.cell? ⟨w.heap.size + 1, 0, none⟩ = some (.int .i64 0) := cell_of_row w1 _ 0 _ _ _ hr3; have c1 : w1.cell? ⟨w.heap.size + 1, 1, none⟩ = some (.int .i64 0) := cell_of_row w1 _ 1 _ _ _ hr3; have f0 := blk_frozen hr3 0; have f1 := blk_frozen hr3 1; have HR3 := Lib.hid hr3; clear hr3; have HB1 := Lib.hid hb1; clear hb1)
  go_region
  go_wp2
  have hend : (((w1.setCell ⟨w.heap.size + 1, 0, none⟩ (.int .i64 0)).setCell ⟨w.heap.size + 1, 1, none⟩ (.int .i64 8)).alloc (.cells #[.int .i64 0, .int .i64 8] 151)).drew.heap[w.heap.size + 1]? = some (.cells #[.int .i64 0, .int .i64 8] 151) :=
    (Below.heap_alloc _ _ _ (by simpa using hlt3)).trans (blk_set (blk_set HR3.out 0 _) 1 _)
  have d0 := cell_of_row _ _ 0 _ _ _ hend
  have d1 := cell_of_row _ _ 1 _ _ _ hend
  refine bodyPost_ret (v := .tuple #[.int .u32 0, .agg #[.int .i64 0, .int .i64 8]]) (by simp [results, Tryz.results471, go_sem, d0, d1]) rfl ⟨rfl, ?_⟩
  have hb0 : Below w.heap.size w w1 := below_then (((((Below.refl w.heap.size w).alloc (Nat.le_refl _) _).alloc (by simp) _)).alloc (by simp; omega) _) (by simp) HB1.out
  refine Below.drew ((((hb0.setCell (by show w.heap.size ≤ w.heap.size + 1; omega) _).setCell (by show w.heap.size ≤ w.heap.size + 1; omega) _)).alloc (by simp; omega) _)
set_option maxRecDepth 100000 in
theorem size_short (s : ByteArray) (w : World) (hs : s.size < 4) : Calls Tryz.prog 458 #[.string s] w fun e w' => e = .returned (.tuple #[.int .i64 0, .bool false]) ∧ Below w.heap.size w w' := by
  have hmf : ∀ (fn : Fn) (first cap : Array Value) (w : World), (Instr.makeFunc fn first cap).run Tryz.prog w = .ok (.func fn first cap) w := fun _ _ _ _ => rfl
  have HV := Lib.hid (value_short s w.heap.size (w.alloc (.cells #[.string s, .int .i64 0] 275)) hs (heap_alloc_new w _))
  have HN : Hid (Calls Tryz.prog 223 #[.string s] w fun e w' => e = .returned (.pointer (some ⟨w.heap.size, 0, none⟩)) ∧ w' = w.alloc (.cells #[.string s, .int .i64 0] 275)) := by
    go_enter Tryz.func223, Tryz.ntmps223
    go_wp2
    go_ret
    exact ⟨rfl, rfl⟩
  go_enter Tryz.func458, Tryz.ntmps458
  go_wp2_with (first
    | (go_at_call 223; refine HN.out.mono ?_; rintro e _ ⟨rfl, rfl⟩)
    | (go_at_call 471; refine HV.out.mono ?_; rintro e w1 ⟨rfl, hb1⟩; have HB1 := Lib.hid hb1; clear hb1))
  go_region
  go_wp2
  refine bodyPost_ret (v := .tuple #[.int .i64 0, .bool false]) (by simp [results, Tryz.results458, go_sem]) rfl ⟨rfl, ?_⟩
  exact Below.drew ((below_then ((Below.refl _ _).alloc (Nat.le_refl _) _) (by simp) HB1.out).alloc (by have := HB1.out.size; simp at this; omega) _)
end Go.Proofs.YtlhaaokldjdnnaaGreatDoor
namespace Go.Proofs.YtlhaaokldjdnnaaGreatDoor
open Go.RowKit
set_option linter.unusedVariables false
set_option linter.unusedSimpArgs false
set_option linter.all false

/-- Nothing but these blocks has turned. -/
structure Saves (w w' : World) (X : List Nat) : Prop where
  os : w'.os = w.os
  tape : w'.tape = w.tape
  output : w'.output = w.output
  size : w.heap.size ≤ w'.heap.size
  block : ∀ k, k < w.heap.size → k ∉ X → w'.heap[k]? = w.heap[k]?
section
variable {w w1 w2 : World} {X : List Nat}
theorem Saves.refl (w : World) (X : List Nat) : Saves w w X := ⟨rfl, rfl, rfl, Nat.le_refl _, fun _ _ _ => rfl⟩
theorem Saves.trans (h : Saves w w1 X) (k : Saves w1 w2 X) : Saves w w2 X := ⟨k.os.trans h.os, k.tape.trans h.tape, k.output.trans h.output, Nat.le_trans h.size k.size, fun j hj hn => (k.block j (Nat.lt_of_lt_of_le hj h.size) hn).trans (h.block j hj hn)⟩
theorem Saves.wide {Y : List Nat} (h : Saves w w1 X) (hX : ∀ x ∈ X, x ∈ Y) : Saves w w1 Y := ⟨h.os, h.tape, h.output, h.size, fun j hj hn => h.block j hj fun hx => hn (hX j hx)⟩
theorem Saves.of_below (h : Below w.heap.size w w1) (X : List Nat) : Saves w w1 X := ⟨h.os, h.tape, h.output, h.size, fun j hj _ => h.block j hj⟩
theorem Saves.set (w : World) (g i : Nat) (v : Value) (hX : g ∈ X) : Saves w (w.setCell ⟨g, i, none⟩ v) X := ⟨rfl, rfl, rfl, by simp, fun j hj hn => Below.heap_setCell w ⟨g, i, none⟩ v j (fun e => hn (e ▸ hX))⟩
theorem Saves.drew (w : World) (X : List Nat) : Saves w w.drew X := ⟨rfl, rfl, rfl, Nat.le_refl _, fun _ _ _ => rfl⟩
theorem Saves.drewN (w : World) (n : Nat) (X : List Nat) : Saves w (w.drewN n) X := Saves.of_below (below_drewN (Below.refl _ _) n) X
theorem Saves.alloc (w : World) (o : Obj) (X : List Nat) : Saves w (w.alloc o) X := ⟨rfl, rfl, rfl, by simp, fun j hj _ => Below.heap_alloc _ _ _ hj⟩
theorem Saves.below {B : Nat} (h : Saves w w1 X) (hX : ∀ x ∈ X, B ≤ x) (hB : B ≤ w.heap.size) : Below B w w1 := ⟨h.os, h.tape, h.output, h.size, fun j hj => h.block j (by omega) fun hx => by have := hX j hx; omega⟩
end
theorem ctake_long (s : ByteArray) (g : Nat) (w : World) (hs : s.size ≤ 1000) (h4 : 4 ≤ s.size) (h : CurIs w g s) : Calls Tryz.prog 358 #[.pointer (some ⟨g, 0, none⟩), .int .i64 4] w fun e w' => e = .returned (.string (s.extract 0 4)) ∧ Saves w w' [g] := by
  have HR := Lib.hid (crest_is s g w hs h)
  have HY := Lib.hid check_yes
  have HG := Lib.hid h
  have i1 : decide ((4 : Int) ≤ (s.size : Int)) = true := by simp; omega
  have i2 : (4 : Int) ≤ (s.size : Int) := by omega
  have hp : ∀ w : World, (binOp BinOp.neq 227 (.pointer (some ⟨g, 0, none⟩)) (.pointer none)).run Tryz.prog w = .ok (.bool true) w := fun w => by kernel_rfl
  clear h
  go_enter Tryz.func358, Tryz.ntmps358
  go_wp2_with (first
    | (go_at_call 350; refine HR.out.mono ?_; rintro e w1 ⟨rfl, hb1⟩; have hg1 := (hb1.block g (blk_lt HG.out)).trans HG.out; have c1 : w1.cell? ⟨g, 1, none⟩ = some (.int .i64 0) := cell_of_row w1 _ 1 _ _ _ hg1; have f1 := blk_frozen hg1 1; have HB1 := Lib.hid hb1; clear hb1 hg1)
    | (go_at_call 142; with_reducible refine (HY.out _ _ _).mono ?_; rintro e _ ⟨rfl, rfl⟩)
    | (go_at_call 142; rw [i1]; with_reducible refine (HY.out _ _ _).mono ?_; rintro e _ ⟨rfl, rfl⟩))
  go_ret
  exact ⟨rfl, (Saves.of_below HB1.out [g]).trans (Saves.set _ g 1 _ (by simp))⟩
theorem or_big (m b : Nat) (hm : m < 2 ^ 24) (hb : b < 256) : bits BinOp.or IntKind.u32 ((m : Int) * 256) (b : Int) = ((256 * m + b : Nat) : Int) := by
  have e : (m : Int) * 256 = ((2 ^ 8 * m : Nat) : Int) := by omega
  rw [e, u32_or_nat _ _ (by omega) (by omega), ← Nat.two_pow_add_eq_or_of_lt (by omega : b < 2 ^ 8)]
/-- The number of the first bytes. -/
def numB (l : List UInt8) : Nat := l.foldl (fun a b => 256 * a + b.toNat) 0
end Go.Proofs.YtlhaaokldjdnnaaGreatDoor
namespace Go.Proofs.YtlhaaokldjdnnaaGreatDoor
open Go.RowKit
set_option linter.unusedVariables false
set_option linter.unusedSimpArgs false
set_option linter.all false

/-- The numbers that the loop may hold behind k bytes, the first one being c. -/
def numOk (c k n : Nat) : Prop := if k = 0 then n = 0 else c * 256 ^ (k - 1) ≤ n ∧ n < 256 ^ k
theorem numOk_step {c k n b : Nat} (h : numOk c k n) (hk : k < 4) (hb : b < 256) (h0 : k = 0 → b = c) : numOk c (k + 1) (256 * n + b) := by
  unfold numOk at h ⊢
  rw [if_neg (by omega)]
  by_cases hz : k = 0
  · subst hz
    simp at h ⊢
    subst h
    have := h0 rfl
    omega
  · rw [if_neg hz] at h
    obtain ⟨h1, h2⟩ := h
    have e1 : 256 ^ (k + 1) = 256 * 256 ^ k := by rw [Nat.pow_succ, Nat.mul_comm]
    have e2 : c * 256 ^ (k + 1 - 1) = 256 * (c * 256 ^ (k - 1)) := by
      have : k + 1 - 1 = (k - 1) + 1 := by omega
      rw [this, Nat.pow_succ, ← Nat.mul_assoc, Nat.mul_comm]
    rw [e1, e2]
    omega
set_option maxHeartbeats 1000000 in
theorem u32_long (s : ByteArray) (g : Nat) (w : World) (hs : s.size ≤ 1000) (h4 : 4 ≤ s.size) (h : CurIs w g s) : Calls Tryz.prog 472 #[.pointer (some ⟨g, 0, none⟩)] w fun e w' => (∃ n : Nat, s[0].toNat * 16777216 ≤ n ∧ n < 4294967296 ∧ e = .returned (.int .u32 (n : Int))) ∧ Saves w w' [g] := by
  have HT := Lib.hid (ctake_long s g w hs h4 h)
  have kc := fun (w : World) (s : ByteArray) => run_bytes_of_string (P := Tryz.prog) w 9 69 5 s Tryz.underlying9 Tryz.underlying69 Tryz.underlying5
  have hz : (s.extract 0 4).size = 4 := by simp; omega
  clear h
  go_enter Tryz.func472, Tryz.ntmps472
  go_wp2_with (go_at_call 358; refine HT.out.mono ?_; rintro e w1 ⟨rfl, hb1⟩; have HB1 := Lib.hid hb1; clear hb1)
  obtain ⟨W, hW⟩ : ∃ W, W = (w1.alloc (.cells (bytesRow (s.extract 0 4) (grownCap w1 4 0 5)) 5 ((bytesRow (s.extract 0 4) (grownCap w1 4 0 5)).size, (bytesRow (s.extract 0 4) (grownCap w1 4 0 5)).size + 1))).drew := ⟨_, rfl⟩
  have hcell : ∀ j (hj : j < 4), W.cell? ⟨w1.heap.size, j, none⟩ = some (.int .u8 ((s[j]'(by omega)).toNat : Int)) := by
    intro j hj
    rw [hW]
    show (w1.alloc _).cell? _ = _
    rw [World.cell?_alloc_mark]
    have hj2 : j < (s.extract 0 4).data.size := by show j < (s.extract 0 4).size; omega
    have : (bytesRow (s.extract 0 4) (grownCap w1 4 0 5))[j]? = some (.int .u8 ((s[j]'(by omega)).toNat : Int)) := by
      rw [bytesRow, Array.getElem?_append_left (by simpa using hj2), Array.getElem?_map, Array.getElem?_eq_getElem hj2]
      have e : (s.extract 0 4).data[j] = s[j]'(by omega) := by
        show (s.extract 0 4)[j]'hj2 = _
        simp [ByteArray.getElem_extract]
      rw [e]
      rfl
    exact this
  have HC := Lib.hid hcell
  have HS : Hid (Saves w W [g]) := Lib.hid (by rw [hW]; exact (HB1.out.trans (Saves.alloc w1 _ [g])).trans (Saves.drew _ [g]))
  rw [← hW]
  clear hcell hW kc HT
  go_loop [3, 10] (fun v i => ∃ k n : Nat, v = .int .u32 (n : Int) ∧ i = .int .i64 (k : Int) ∧ k ≤ 4 ∧ numOk s[0].toNat k n) (fun _ i => 4 - (intOf i).toNat)
  case atStart => exact ⟨0, 0, rfl, rfl, by omega, rfl⟩
  case round =>
    obtain ⟨k, n, rfl, rfl, hk, hn⟩ := hrel
    by_cases hlt : k < 4
    · have hc := HC.out k hlt
      have hb := (s[k]'(by omega)).toNat_lt
      have hn24 : n < 2 ^ 24 := by
        unfold numOk at hn
        split at hn
        · omega
        · have : 256 ^ k ≤ 256 ^ 3 := Nat.pow_le_pow_right (by omega) (by omega)
          omega
      have hor := or_big n _ hn24 hb
      have hN := Lib.hid (numOk_step hn hlt hb (fun e => by subst e; rfl))
      have hw32 := IntWalk.u32_in ((n : Int) * 256) (by omega)
      obtain ⟨b, hbb⟩ : ∃ b, (s[k]'(by omega)).toNat = b := ⟨_, rfl⟩
      rw [hbb] at hc hor hN hb
      have hw33 := IntWalk.u32_in (b : Int) (by omega)
      have i1 : (k : Int) < 4 := by omega
      clear hn hbb
      go_wp2
      go_round
      case rel => exact ⟨k + 1, 256 * n + b, by go_num, by go_num, by omega, hN.out⟩
      case measure => simp [intOf]; omega
    · obtain rfl : k = 4 := by omega
      have hn' : s[0].toNat * 16777216 ≤ n ∧ n < 4294967296 := by
        unfold numOk at hn
        simpa using hn
      go_wp2
      go_ret
      exact ⟨⟨n, hn'.1, hn'.2, rfl⟩, HS.out⟩
end Go.Proofs.YtlhaaokldjdnnaaGreatDoor
namespace Go.Proofs.YtlhaaokldjdnnaaGreatDoor
open Go.RowKit
set_option linter.unusedVariables false
set_option linter.unusedSimpArgs false
set_option linter.all false

/-- Great, by the first byte. -/
def Big (s : ByteArray) (n : Nat) : Prop := (s.data.toList[0]?.map fun c => c.toNat).getD 0 * 16777216 ≤ n ∧ n < 4294967296
theorem vbody_long (s : ByteArray) (g p q : Nat) (x : Value) (w : World) (hs : s.size ≤ 1000) (h4 : 4 ≤ s.size) (h : CurIs w g s) (hgq : q ≠ g) (hp : w.cell? ⟨p, 0, none⟩ = some (.func (.func 472) #[.pointer (some ⟨g, 0, none⟩)] #[])) (hq : w.heap[q]? = some (.cells #[x] 253 (0, 0))) :
    Calls Tryz.prog 477 #[.pointer (some ⟨p, 0, none⟩), .pointer (some ⟨q, 0, none⟩)] w fun e w' => (∃ v, e = .returned v) ∧ Saves w w' [g, q] ∧ ∃ n : Nat, Big s n ∧ w'.heap[q]? = some (.cells #[.int .u32 (n : Int)] 253 (0, 0)) := by
  have HT := Lib.hid (u32_long s g w hs h4 h)
  have HQ := Lib.hid hq
  have h0 : s.data.toList[0]? = some s[0] := by
    rw [Array.getElem?_toList]
    exact Array.getElem?_eq_getElem (by show 0 < s.size; omega)
  have H0 : Hid (∀ n : Nat, s[0].toNat * 16777216 ≤ n → n < 4294967296 → Big s n) := Lib.hid fun n h1 h2 => ⟨by rw [h0]; exact h1, h2⟩
  clear h hq h0
  go_enter Tryz.func477, Tryz.ntmps477
  go_wp2_with (go_at_call 472; refine HT.out.mono ?_; rintro e w1 ⟨⟨n, h1, h2, rfl⟩, hb1⟩; have hq1 := (hb1.block q (blk_lt HQ.out) (by simpa using hgq)).trans HQ.out; have c0 : w1.cell? ⟨q, 0, none⟩ = some x := cell_of_row w1 q 0 _ _ _ hq1; have f0 := blk_frozen hq1 0; have HB := Lib.hid (H0.out n h1 h2); have HQ1 := Lib.hid hq1; have HB1 := Lib.hid hb1; clear hb1 hq1 h1 h2)
  go_end0
  exact ⟨⟨_, rfl⟩, (HB1.out.wide (by simp)).trans (Saves.set w1 q 0 _ (by simp)), n, HB.out, blk_set HQ1.out 0 _⟩
set_option maxRecDepth 100000 in
theorem value_long (s : ByteArray) (g B : Nat) (w : World) (hs : s.size ≤ 1000) (h4 : 4 ≤ s.size) (h : CurIs w g s) (hB : B ≤ g) : Calls Tryz.prog 471 #[.func (.func 472) #[.pointer (some ⟨g, 0, none⟩)] #[]] w fun e w' => (∃ n : Nat, Big s n ∧ e = .returned (.tuple #[.int .u32 (n : Int), .agg #[.int .i64 0, .int .i64 0]])) ∧ Below B w w' := by
  have hmf : ∀ (fn : Fn) (first cap : Array Value) (w : World), (Instr.makeFunc fn first cap).run Tryz.prog w = .ok (.func fn first cap) w := fun _ _ _ _ => rfl
  have hnil : ∀ w : World, (binOp BinOp.eql 404 (.func (.func 472) #[.pointer (some ⟨g, 0, none⟩)] #[]) .nilFunc).run Tryz.prog w = .ok (.bool false) w := fun w => by
    have hE : (Op.equal 404 (.func (.func 472) #[.pointer (some ⟨g, 0, none⟩)] #[]) .nilFunc).run Tryz.prog w = .ok false w := by
      have H : ∀ d : Nat, (Op.equalIn (d + 1) 404 (.func (.func 472) #[.pointer (some ⟨g, 0, none⟩)] #[]) .nilFunc).run Tryz.prog w = .ok false w := fun d => by simp [Op.equalIn, Ev.run_under Tryz.underlying404]
      exact H 9999
    simp only [binOp, Sem.run_bind, hE]; rfl
  have HG := Lib.hid h
  have hgw := blk_lt h
  clear h
  have HW : Hid (∀ w2 : World, Below w.heap.size w w2 → ∀ (p q : Nat) (x : Value), w2.cell? ⟨p, 0, none⟩ = some (.func (.func 472) #[.pointer (some ⟨g, 0, none⟩)] #[]) → w2.heap[q]? = some (.cells #[x] 253 (0, 0)) → q ≠ g →
      Calls Tryz.prog 138 #[.func (.func 477) #[] #[.pointer (some ⟨p, 0, none⟩), .pointer (some ⟨q, 0, none⟩)]] w2 fun e w4 => e = .returned (.tuple #[.agg #[.int .i64 0, .int .i64 0], .bool false]) ∧ Saves w2 w4 [g, q] ∧ ∃ n : Nat, Big s n ∧ w4.heap[q]? = some (.cells #[.int .u32 (n : Int)] 253 (0, 0))) := by
    intro w2 hb p q x hp hq hqg
    have hb2 := ((Below.refl w2.heap.size w2).alloc (Nat.le_refl _) (.cells #[.int .i64 0, .int .i64 0] 151)).alloc (by simp) (.cells #[.bool false] 4)
    have hql := blk_lt hq
    have hgl : g < w2.heap.size := Nat.lt_of_lt_of_le hgw hb.size
    have hv := vbody_long s g p q x ((w2.alloc (.cells #[.int .i64 0, .int .i64 0] 151)).alloc (.cells #[.bool false] 4)) hs h4 ((hb2.block g hgl).trans ((hb.block g hgw).trans HG.out)) hqg ((World.cell?_of_block (hb2.block p (lt_of_cell hp))).trans hp) ((hb2.block q hql).trans hq)
    refine (Ev.catch_call (R := fun w3 => Saves ((w2.alloc (.cells #[.int .i64 0, .int .i64 0] 151)).alloc (.cells #[.bool false] 4)) w3 [g, q] ∧ ∃ n : Nat, Big s n ∧ w3.heap[q]? = some (.cells #[.int .u32 (n : Int)] 253 (0, 0))) (fun w => by kernel_rfl) hv ?_).mono ?_
    · rintro w3 ⟨hs3, _⟩
      refine ⟨(hs3.block _ (by simp; omega) (by simp; omega)).trans ?_, (hs3.block _ (by simp) (by simp; omega)).trans ?_⟩
      · rw [Below.heap_alloc _ _ _ (by simp)]
        exact heap_alloc_new w2 _
      · have := heap_alloc_new (w2.alloc (.cells #[.int .i64 0, .int .i64 0] 151)) (.cells #[.bool false] 4)
        rwa [World.size_alloc] at this
    · rintro e w4 ⟨rfl, w3, ⟨hs3, n, hn, hq3⟩, k1, k2, k3, k4, k5⟩
      have hz := hs3.size
      simp at hz
      exact ⟨rfl, ⟨k3.trans hs3.os, k4.trans hs3.tape, k5.trans hs3.output, by omega, fun j hj hn => (k1 j (by omega) (by omega)).trans ((hs3.block j (by simp; omega) hn).trans (hb2.block j hj))⟩, n, hn, (k1 q (by omega) (by omega)).trans hq3⟩
  go_enter Tryz.func471, Tryz.ntmps471
  go_wp2_with fail
  have hbel : Below w.heap.size w (((w.alloc (.cells #[.func (.func 472) #[.pointer (some ⟨g, 0, none⟩)] #[]] 404)).alloc (.cells #[.int .i64 0, .int .i64 0] 151)).alloc (.cells #[.int .u32 0] 253)) := (((Below.refl _ _).alloc (Nat.le_refl _) _).alloc (by simp) _).alloc (by simp; omega) _
  have hrow : (((w.alloc (.cells #[.func (.func 472) #[.pointer (some ⟨g, 0, none⟩)] #[]] 404)).alloc (.cells #[.int .i64 0, .int .i64 0] 151)).alloc (.cells #[.int .u32 0] 253)).heap[w.heap.size + 1 + 1]? = some (.cells #[.int .u32 0] 253 (0, 0)) := by
    have := heap_alloc_new ((w.alloc (.cells #[.func (.func 472) #[.pointer (some ⟨g, 0, none⟩)] #[]] 404)).alloc (.cells #[.int .i64 0, .int .i64 0] 151)) (.cells #[.int .u32 0] 253)
    rwa [World.size_alloc, World.size_alloc] at this
  have hrow1 : (((w.alloc (.cells #[.func (.func 472) #[.pointer (some ⟨g, 0, none⟩)] #[]] 404)).alloc (.cells #[.int .i64 0, .int .i64 0] 151)).alloc (.cells #[.int .u32 0] 253)).heap[w.heap.size + 1]? = some (.cells #[.int .i64 0, .int .i64 0] 151 (0, 0)) := by
    rw [Below.heap_alloc _ _ _ (by simp)]
    have := heap_alloc_new (w.alloc (.cells #[.func (.func 472) #[.pointer (some ⟨g, 0, none⟩)] #[]] 404)) (.cells #[.int .i64 0, .int .i64 0] 151)
    rwa [World.size_alloc] at this
  have hp0 : (((w.alloc (.cells #[.func (.func 472) #[.pointer (some ⟨g, 0, none⟩)] #[]] 404)).alloc (.cells #[.int .i64 0, .int .i64 0] 151)).alloc (.cells #[.int .u32 0] 253)).cell? ⟨w.heap.size, 0, none⟩ = some (.func (.func 472) #[.pointer (some ⟨g, 0, none⟩)] #[]) := by
    have hr : (((w.alloc (.cells #[.func (.func 472) #[.pointer (some ⟨g, 0, none⟩)] #[]] 404)).alloc (.cells #[.int .i64 0, .int .i64 0] 151)).alloc (.cells #[.int .u32 0] 253)).heap[w.heap.size]? = some (.cells #[.func (.func 472) #[.pointer (some ⟨g, 0, none⟩)] #[]] 404 (0, 0)) := by
      rw [Below.heap_alloc _ _ _ (by simp; omega), Below.heap_alloc _ _ _ (by simp)]
      exact heap_alloc_new w _
    exact cell_of_row _ _ 0 _ _ _ hr
  have HBEL := Lib.hid hbel
  have HR := Lib.hid hrow1
  refine (HW.out _ hbel w.heap.size (w.heap.size + 1 + 1) (.int .u32 0) hp0 hrow (by omega)).mono ?_
  clear hbel hrow hrow1 hp0
  rintro e w1 ⟨rfl, hs1, n, hn, hq1⟩
  have hr1 := (hs1.block (w.heap.size + 1) (by simp) (by simp; omega)).trans HR.out
  have c0 : w1.cell? ⟨w.heap.size + 1 + 1, 0, none⟩ = some (.int .u32 (n : Int)) := cell_of_row w1 _ 0 _ _ _ hq1
  have d0 : w1.cell? ⟨w.heap.size + 1, 0, none⟩ = some (.int .i64 0) := cell_of_row w1 _ 0 _ _ _ hr1
  have d1 : w1.cell? ⟨w.heap.size + 1, 1, none⟩ = some (.int .i64 0) := cell_of_row w1 _ 1 _ _ _ hr1
  have f0 := blk_frozen hr1 0
  have f1 := blk_frozen hr1 1
  have hlt1 := blk_lt hr1
  have hlt2 := blk_lt hq1
  have e0 : (w1.alloc (.cells #[.int .i64 0, .int .i64 0] 151)).cell? ⟨w.heap.size + 1 + 1, 0, none⟩ = some (.int .u32 (n : Int)) := cell_of_row _ _ 0 _ _ _ ((Below.heap_alloc _ _ _ hlt2).trans hq1)
  have HR2 := Lib.hid hr1
  have HS1 := Lib.hid hs1
  have HN := Lib.hid hn
  clear hr1 hq1 hs1 hn HW HR
  go_wp2
  have hend := (Below.heap_alloc _ (.cells #[.int .i64 0, .int .i64 0] 151) _ (by simpa using hlt1)).trans (blk_set (blk_set HR2.out 0 (.int .i64 0)) 1 (.int .i64 0))
  have k0 := cell_of_row _ _ 0 _ _ _ hend
  have k1 := cell_of_row _ _ 1 _ _ _ hend
  refine bodyPost_ret (v := .tuple #[.int .u32 (n : Int), .agg #[.int .i64 0, .int .i64 0]]) (by simp [results, Tryz.results471, go_sem, k0, k1]) rfl ⟨⟨n, HN.out, rfl⟩, ?_⟩
  have hz : B ≤ w.heap.size := by omega
  have hb1 : Below B w w1 := by
    have h1 : Below B w _ := HBEL.out.mono hz
    exact h1.trans (HS1.out.below (by simp; omega) (by simp; omega))
  exact ((hb1.setCell (p := ⟨w.heap.size + 1, 0, none⟩) (by show B ≤ w.heap.size + 1; omega) _).setCell (p := ⟨w.heap.size + 1, 1, none⟩) (by show B ≤ w.heap.size + 1; omega) _).alloc (by simp; omega) _
set_option maxRecDepth 100000 in
theorem size_long (s : ByteArray) (w : World) (hs : s.size ≤ 1000) (h4 : 4 ≤ s.size) : Calls Tryz.prog 458 #[.string s] w fun e w' => (∃ n : Nat, Big s n ∧ e = .returned (.tuple #[.int .i64 (n : Int), .bool true])) ∧ Below w.heap.size w w' := by
  have hmf : ∀ (fn : Fn) (first cap : Array Value) (w : World), (Instr.makeFunc fn first cap).run Tryz.prog w = .ok (.func fn first cap) w := fun _ _ _ _ => rfl
  have HV := Lib.hid (value_long s w.heap.size w.heap.size (w.alloc (.cells #[.string s, .int .i64 0] 275)) hs h4 (heap_alloc_new w _) (Nat.le_refl _))
  have HN : Hid (Calls Tryz.prog 223 #[.string s] w fun e w' => e = .returned (.pointer (some ⟨w.heap.size, 0, none⟩)) ∧ w' = w.alloc (.cells #[.string s, .int .i64 0] 275)) := by
    go_enter Tryz.func223, Tryz.ntmps223
    go_wp2
    go_ret
    exact ⟨rfl, rfl⟩
  go_enter Tryz.func458, Tryz.ntmps458
  go_wp2_with (first
    | (go_at_call 223; refine HN.out.mono ?_; rintro e _ ⟨rfl, rfl⟩)
    | (go_at_call 471; refine HV.out.mono ?_; rintro e w1 ⟨⟨n, hn, rfl⟩, hb1⟩; have HW : Hid (IntKind.i64.wrap (n : Int) = n) := Lib.hid (IntWalk.i64_in _ (by have := hn.2; omega)); have hw := HW.out; have HN2 := Lib.hid hn; have HB1 := Lib.hid hb1; clear hb1 hn))
  go_region
  go_wp2
  refine bodyPost_ret (v := .tuple #[.int .i64 (n : Int), .bool true]) (by simp [results, Tryz.results458, go_sem]) rfl ⟨⟨n, HN2.out, rfl⟩, ?_⟩
  have hsz := HB1.out.size
  simp at hsz
  exact Below.drew ((((Below.refl _ _).alloc (Nat.le_refl _) _).trans HB1.out).alloc (by omega) _)
end Go.Proofs.YtlhaaokldjdnnaaGreatDoor
namespace Go.Proofs.YtlhaaokldjdnnaaGreatDoor
open Go.RowKit
set_option linter.unusedVariables false
set_option linter.unusedSimpArgs false
set_option linter.all false

theorem plain_big {s : ByteArray} (h : Plain s) {n : Nat} (hn : Big s n) : s.size < n ∧ 9 * 16777216 ≤ n := by
  obtain ⟨h1, c, r, hc, hp⟩ := h
  obtain ⟨h2, _⟩ := hn
  rw [hc] at h2
  simp at h2
  have hc9 : 9 ≤ c.toNat := by
    unfold plainB at hp
    simp at hp
    rcases hp with (((((rfl | rfl) | rfl) | rfl) | rfl) | rfl) | rfl <;> decide
  omega
theorem mbegins_not {s : ByteArray} (h : Plain s) (w : World) : Calls Tryz.prog 457 #[.string s] w fun e w' => e = .returned (.bool false) ∧ Below w.heap.size w w' := by
  by_cases h4 : s.size < 4
  · have HS := Lib.hid (size_short s w h4)
    clear h
    go_enter Tryz.func457, Tryz.ntmps457
    go_wp2_with (go_at_call 458; refine HS.out.mono ?_; rintro e w1 ⟨rfl, hb1⟩; have HB1 := Lib.hid hb1; clear hb1)
    go_ret
    exact ⟨rfl, HB1.out⟩
  · have HS := Lib.hid (size_long s w h.1 (by omega))
    have HP := Lib.hid h
    have hsz := h.1
    clear h
    by_cases h12 : 12 ≤ s.size
    · have g1 : (12 : Int) ≤ (s.size : Int) := by omega
      go_enter Tryz.func457, Tryz.ntmps457
      go_wp2_with (go_at_call 458; refine HS.out.mono ?_; rintro e w1 ⟨⟨n, hn, rfl⟩, hb1⟩; have g2 : ¬ (n : Int) ≤ (s.size : Int) := (by have := (plain_big HP.out hn).1; omega); have HB1 := Lib.hid hb1; clear hb1 hn)
      go_ret
      exact ⟨rfl, HB1.out⟩
    · have g1 : ¬ (12 : Int) ≤ (s.size : Int) := by omega
      go_enter Tryz.func457, Tryz.ntmps457
      go_wp2_with (go_at_call 458; refine HS.out.mono ?_; rintro e w1 ⟨⟨n, hn, rfl⟩, hb1⟩; have HB1 := Lib.hid hb1; clear hb1 hn)
      go_ret
      exact ⟨rfl, HB1.out⟩
theorem brands_none {s : ByteArray} (h : Plain s) (w : World) : Calls Tryz.prog 440 #[.string s] w fun e w' => e = .returned (.slice none 0 0) ∧ Below w.heap.size w w' := by
  have HS := Lib.hid (mbegins_not h w)
  clear h
  go_enter Tryz.func440, Tryz.ntmps440
  go_wp2_with (go_at_call 457; refine HS.out.mono ?_; rintro e w1 ⟨rfl, hb1⟩; have HB1 := Lib.hid hb1; clear hb1)
  go_ret
  exact ⟨rfl, HB1.out⟩
theorem index_nil (f : Value) (w : World) : Calls Tryz.prog 292 #[.slice none 0 0, f] w fun e w' => e = .returned (.int .i64 (-1)) ∧ w = w' := by
  go_enter Tryz.func292, Tryz.ntmps292
  go_wp2
  go_loop [8] (fun i => i = .int .i64 0) (fun _ => 0)
  case atStart => rfl
  case round =>
    obtain rfl := hrel
    go_wp2
    go_ret
    exact ⟨rfl, rfl⟩
theorem contains_nil (f : Value) (w : World) : Calls Tryz.prog 216 #[.slice none 0 0, f] w fun e w' => e = .returned (.bool false) ∧ w = w' := by
  have H := Lib.hid (index_nil f w)
  go_enter Tryz.func216, Tryz.ntmps216
  go_wp2_with (go_at_call 292; refine H.out.mono ?_; rintro e _ ⟨rfl, rfl⟩)
  go_ret
  exact ⟨rfl, rfl⟩
theorem mp4_not {s : ByteArray} (h : Plain s) (w : World) : Calls Tryz.prog 421 #[.string s] w fun e w' => e = .returned (.bool false) ∧ Below w.heap.size w w' := by
  have HS := Lib.hid (brands_none h w)
  have HC := Lib.hid contains_nil
  clear h
  go_enter Tryz.func421, Tryz.ntmps421
  go_wp2_with (first | (go_at_call 440; refine HS.out.mono ?_; rintro e w1 ⟨rfl, hb1⟩; have HB1 := Lib.hid hb1; clear hb1) | (go_at_call 216; refine (HC.out _ _).mono ?_; rintro e _ ⟨rfl, rfl⟩))
  go_ret
  exact ⟨rfl, HB1.out⟩
end Go.Proofs.YtlhaaokldjdnnaaGreatDoor
