/-
  Parts, one behind the other: Builder.copyCheck, Builder.String: what the evaluator answers for them is so. | Builder.String: what the evaluator answers for it is so; and with it all that is told from outside of special functions. | What the evaluator is told from outside of this program: a list of closed calls, each with what it answers. No condition. | Closed calls that hand back a list of texts: what the evaluator finds is what every run of it hands back. No condition.
-/
import Derived.Test.YtlhaaokldjdnnaaGreatDoorEvCatchAll
import Derived.Lib.Builder
import Derived.Lib.UnsafeStr
import Derived.Laws.Externs
import Derived.Test.YtlhaaokldjdnnaaGreatDoorEvPlan
import Derived.Test.YtlhaaokldjdnnaaGreatDoorEvCodeAll
namespace Go.Proofs.YtlhaaokldjdnnaaGreatDoor.Ev
open Go.RowKit
set_option linter.unusedVariables false
set_option linter.unusedSimpArgs false
variable {C : Cfg} {N0 : Nat} {E E' E1 : Env} {h h' h1 : Hp} {w w' w1 w2 w3 w4 : World}

theorem infoB : (Tryz.prog.info? 288).map (·.size) = some 2 := by kernel_rfl
set_option maxRecDepth 100000 in
theorem check_used (b i : Nat) (w : World) (h0 : w.cell? ⟨b, i, none⟩ = some (.pointer (some ⟨b, i, none⟩))) :
    Calls Tryz.prog 376 #[.pointer (some ⟨b, i, none⟩)] w fun e w' => e = .returned (.tuple #[]) ∧ w' = w := by
  obtain ⟨j, hj, _⟩ := Option.map_eq_some_iff.1 infoB
  have hq := fun w : World => Lib.run_neq_ptr_same (P := Tryz.prog) w ⟨b, i, none⟩ Tryz.underlying286 hj
  clear hj
  go_enter Tryz.func376, Tryz.ntmps376
  go_wp2
  go_end0
  exact ⟨rfl, rfl⟩
set_option maxRecDepth 100000 in
theorem check_fresh (b : Nat) (w : World) (h0 : w.cell? ⟨b, 0, none⟩ = some (.pointer none)) (hsh : w.shape? b = some (288, 2)) (hfz : w.frozen? ⟨b, 0, none⟩ = false) :
    Calls Tryz.prog 376 #[.pointer (some ⟨b, 0, none⟩)] w fun e w' => e = .returned (.tuple #[]) ∧ w' = w.setCell ⟨b, 0, none⟩ (.pointer (some ⟨b, 0, none⟩)) := by
  obtain ⟨j, hj, hjs⟩ := Option.map_eq_some_iff.1 infoB
  have hq := fun w : World => Lib.run_neq_ptr_same (P := Tryz.prog) w ⟨b, 0, none⟩ Tryz.underlying286 hj
  have h1 := Lib.run_to_unsafe (P := Tryz.prog) w ⟨b, 0, none⟩ Tryz.underlying286 Tryz.underlying351 hj (by rw [hjs]; decide) hsh (Nat.zero_lt_succ 1)
  have h2 : (callFunc 407 #[.pointer (some ⟨b, 0, none⟩)]).run Tryz.prog w = .ok (.value (.pointer (some ⟨b, 0, none⟩))) w := by
    rw [run_callFunc_extern Tryz.func407 (by kernel_rfl) (by kernel_rfl) (by kernel_rfl) (e := Extern.AbiNoEscape.same) (by kernel_rfl)]
    rw [Lib.run_noEscape]
    rfl
  have h3 := Lib.run_from_unsafe (P := Tryz.prog) w ⟨b, 0, none⟩ Tryz.underlying351 Tryz.underlying286 hj hsh (e := 288) (cells := 2) (by kernel_rfl)
  clear hj
  go_enter Tryz.func376, Tryz.ntmps376
  go_wp2
  go_end0
  exact ⟨rfl, rfl⟩
theorem check_ok (hP : C.P = Tryz.prog) {args : List AV} {r : AV} (hr : copyCheck_ 376 args h = some (r, h')) {us : Array Value} (R0 : Rep C N0 E h w) (hl : args.length = us.size)
    (hat : ∀ (i : Nat) (x : AV) (u : Value), args[i]? = some x → us[i]? = some u → IsA E x u) :
    Calls C.P 376 us w fun e w' => ∃ v E', e = .returned v ∧ IsA E' r v ∧ Step C N0 E h w E' h' w' := by
  rw [hP]
  unfold copyCheck_ at hr
  split at hr
  · rename_i x
    split at hr
    · rename_i b off e1
      obtain ⟨u, rfl⟩ : ∃ u, us = #[u] := Array.size_eq_one_iff.1 (by simpa using hl.symm)
      obtain ⟨l, hb, hu⟩ := asOne_is e1 (hat 0 x u rfl rfl)
      subst hu
      split at hr
      · rename_i c s e2
        obtain ⟨m, em, X, t, fr, hw, hX, hf, hd, hs⟩ := R0.live b _ e2
        obtain rfl : l = m := by rw [hb] at em; exact Option.some.inj em
        split at hr
        · rename_i e3
          split at hr
          · rename_i hc
            cases hr
            obtain ⟨rfl, rfl, hlen⟩ := hc
            obtain ⟨ht, hfix⟩ := hd.2 288 (by decide)
            obtain ⟨hls, hsz⟩ := hfix (by decide)
            obtain ⟨v, hv, hvb⟩ := hX 0 _ e3
            cases hvb
            obtain ⟨lr, ls, ld⟩ := l
            simp only at hls hw hv hf
            subst hls ht
            have c0 : w.cell? ⟨lr, 0, none⟩ = some (.pointer none) := by rw [cell_of hw]; exact hv
            have f0 : w.frozen? ⟨lr, 0, none⟩ = false := frozen_of hw (by simpa using hf 0 (by omega))
            have hsh : w.shape? lr = some (288, 2) := by simp [World.shape?, hw, hsz, hlen]
            have hst := (write_cells (vs := [.pointer (some ⟨lr, 0, none⟩)]) R0 e2 hb (off := 0) (xs := [.ptr b 0]) ⟨⟨_, hb, rfl⟩, trivial⟩ (by intro v hv; simp at hv; subst hv; rfl) (by simp; omega)).2
            refine (check_fresh lr w c0 hsh f0).mono ?_
            rintro e w' ⟨rfl, rfl⟩
            exact ⟨_, E, rfl, rfl, hst⟩
          · cases hr
        · rename_i b' off' e3
          split at hr
          · rename_i hc
            cases hr
            obtain ⟨rfl, rfl⟩ := hc
            obtain ⟨v, hv, m, hm, hvb⟩ := hX _ _ e3
            obtain rfl : l = m := by rw [hb] at hm; exact Option.some.inj hm
            subst hvb
            refine (check_used l.r (l.s + off') w (by rw [cell_of hw]; exact hv)).mono ?_
            rintro e w' ⟨rfl, rfl⟩
            exact ⟨_, E, rfl, rfl, Step.refl R0⟩
          · cases hr
        · cases hr
      · cases hr
    · cases hr
  · cases hr
end Go.Proofs.YtlhaaokldjdnnaaGreatDoor.Ev
namespace Go.Proofs.YtlhaaokldjdnnaaGreatDoor.Ev
open Go.RowKit
set_option linter.unusedVariables false
set_option linter.unusedSimpArgs false
variable {C : Cfg} {N0 : Nat} {E E' E1 : Env} {h h' h1 : Hp} {w w' w1 w2 w3 w4 : World}

theorem liesAt_off {P : Program} {e : TypeId} (hc : P.cellsOf e = 1) (count off n : Nat) (hn : off + n ≤ count) : liesAt P P.depth e count off e n = true := by
  have hd : P.depth = (2 * (P.types.size + Made.depth) + 1) + 1 := rfl
  rw [hd]
  simp only [liesAt, Bool.or_eq_true]
  left
  rw [hd]
  simp [rowAt, hc, hn, sameLayout, Nat.mod_one]
theorem run_text {P : Program} {w : World} (pt it ty e : TypeId) (hp : P.underlying pt = some (.pointer e)) (hc : P.cellsOf e = 1) (g off cells : Nat) (hsh : w.shape? g = some (e, cells)) (l : List UInt8) (h0 : l ≠ []) (hn : off + l.length ≤ cells) (h63 : l.length ≤ 9223372036854775807)
    (hcell : ∀ j x, l[j]? = some x → w.cell? ((⟨g, off, none⟩ : Addr).add j) = some (.int .u8 x.toNat)) :
    (Builtin.unsafeString_ #[pt, it] ty #[.pointer (some ⟨g, off, none⟩), .int .i64 l.length]).run P w = .ok (.string ⟨l.toArray⟩) (w.freeze ⟨g, off, none⟩ l.length) := by
  have hl : l.length ≠ 0 := by simpa using h0
  have hlb := Lib.run_loadBytes (P := P) w l ⟨g, off, none⟩ .empty hcell
  have hlies := liesAt_off (P := P) hc (cells / P.cellsOf e) off l.length (by rw [hc]; simpa using hn)
  have h63' : ¬ (9223372036854775807 : Int) < (l.length : Int) := by omega
  have hdef : ∃ e1 e2 e3, Builtin.unsafeString_ #[pt, it] ty #[.pointer (some ⟨g, off, none⟩), .int .i64 l.length] =
      (do
        let n ← asInt (.int .i64 l.length)
        if n < 0 then runtimePanic e1
        if n > IntKind.i64.max then unsupported e2
        if n = 0 then pure (.string .empty)
        else if ← variablesAt ⟨g, off, none⟩ (← Go.elemOf pt) n.toNat then do
          let s ← loadBytes ⟨g, off, none⟩ .empty n.toNat
          freeze ⟨g, off, none⟩ n.toNat
          pure (.string s)
        else unsupported e3) := ⟨_, _, _, rfl⟩
  obtain ⟨e1, e2, e3, hdef⟩ := hdef
  rw [hdef]
  have hmax : IntKind.i64.max = 9223372036854775807 := rfl
  have hneg : ¬ (l.length : Int) < 0 := by omega
  simp [asInt, asIntOf, hmax, h63', hneg, hl, variablesAt, hsh, Go.elemOf, run_underlying hp, hlies, hlb]

/-- A block that turns into whatever, and is named no more. -/
theorem step_lose (r : Rep C N0 E h w) {b : Nat} {x : Blk} {l : Loc} (hb : h.get b = some x) (he : E b = some l) (hsz : w'.heap.size = w.heap.size)
    (hk : ∀ k, k ≠ l.r → w'.heap[k]? = w.heap[k]?) (hos : w'.os = w.os) (ht : w'.tape = w.tape) (ho : w'.output = w.output) : Step C N0 E h w E (h.drop b) w' := by
  have hlive : ∀ c z, (h.drop b).get c = some z → c ≠ b ∧ h.get c = some z := fun c z hc => by
    rw [get_drop] at hc
    by_cases hn : c = b
    · rw [if_pos hn] at hc; cases hc
    · rw [if_neg hn] at hc; exact ⟨hn, hc⟩
  refine ⟨⟨fun c z hc => ?_, fun c c' z z' m m' hc hc' e e' hr => ?_, fun c m e => r.below _ _ e, fun c z m hc e => r.base _ _ _ (hlive c z hc).2 e, fun g i v hg => ?_, ?_⟩, fun _ _ => rfl, Nat.le_refl _, fun k hk' hn => ?_, fun c z m hc e => .inr ⟨c, z, m, (hlive c z hc).2, e, rfl⟩, ?_, hos, ht, ho⟩
  · obtain ⟨hn, hc⟩ := hlive c z hc
    obtain ⟨m, e, k⟩ := r.live c z hc
    exact ⟨m, e, k.same (hk _ fun e2 => hn (r.inj _ _ _ _ _ _ hc hb e he e2))⟩
  · exact r.inj _ _ _ _ _ _ (hlive c z hc).2 (hlive c' z' hc').2 e e' hr
  · obtain ⟨h1, h2⟩ := r.tab g i v hg
    refine ⟨h1, (World.cell?_of_block (hk g fun e => ?_)).trans h2⟩
    have := r.base _ _ _ hb he
    omega
  · rw [hsz]
    exact r.room
  · exact hk k fun e => hn b x l hb he e.symm
  · rw [hsz]
    exact Nat.le_refl _
theorem freeze_size (w : World) (p : Addr) (n : Nat) : (w.freeze p n).heap.size = w.heap.size := by
  unfold World.freeze
  split
  · rfl
  · simp
theorem freeze_other (w : World) (p : Addr) (n k : Nat) (hk : k ≠ p.block) : (w.freeze p n).heap[k]? = w.heap[k]? := by
  unfold World.freeze
  split
  · rfl
  · simp only [Array.getElem?_modify]
    rw [if_neg (fun e => hk e.symm)]
theorem freeze_os (w : World) (p : Addr) (n : Nat) : (w.freeze p n).os = w.os ∧ (w.freeze p n).tape = w.tape ∧ (w.freeze p n).output = w.output := by
  unfold World.freeze
  split <;> exact ⟨rfl, rfl, rfl⟩

set_option maxHeartbeats 1000000 in
set_option maxRecDepth 100000 in
theorem text_none (b i : Nat) (w : World) (c0 : w.cell? ⟨b, i + 1, none⟩ = some (.slice none 0 0)) :
    Calls Tryz.prog 329 #[.pointer (some ⟨b, i, none⟩)] w fun e w' => e = .returned (.string .empty) ∧ w' = w.drew := by
  have c1 : w.drew.cell? ⟨b, i + 1, none⟩ = some (.slice none 0 0) := c0
  have hSD : ∀ ts ty, (Builtin.unsafeSliceData_ ts ty #[.slice none 0 0]).run Tryz.prog w.drew = .ok (.pointer none) w.drew := fun ts ty => rfl
  have hUS := fun pt it ty => Lib.run_unsafeString_none (P := Tryz.prog) w.drew pt it ty none
  go_enter Tryz.func329, Tryz.ntmps329
  go_wp2
  go_region
  all_goals (go_wp2; go_ret; exact ⟨rfl, rfl⟩)
set_option maxHeartbeats 1000000 in
set_option maxRecDepth 100000 in
theorem text_some (b i g off cells cap : Nat) (l : List UInt8) (w : World) (h0 : l ≠ []) (c0 : w.cell? ⟨b, i + 1, none⟩ = some (.slice (some ⟨g, off, none⟩) l.length cap)) (hcap : cap ≠ 0) (hsh : w.shape? g = some (5, cells)) (hn : off + l.length ≤ cells) (h63 : l.length ≤ 65536)
    (hcell : ∀ j x, l[j]? = some x → w.cell? ((⟨g, off, none⟩ : Addr).add j) = some (.int .u8 x.toNat)) :
    Calls Tryz.prog 329 #[.pointer (some ⟨b, i, none⟩)] w fun e w' => e = .returned (.string ⟨l.toArray⟩) ∧ w' = w.drew.freeze ⟨g, off, none⟩ l.length := by
  have c1 : w.drew.cell? ⟨b, i + 1, none⟩ = some (.slice (some ⟨g, off, none⟩) l.length cap) := c0
  have hSD : ∀ ts ty, (Builtin.unsafeSliceData_ ts ty #[.slice (some ⟨g, off, none⟩) l.length cap]).run Tryz.prog w.drew = .ok (.pointer (some ⟨g, off, none⟩)) w.drew := fun ts ty => Lib.run_unsafeSliceData_row _ _ _ _ _ _ hcap
  have hUS := fun it ty => run_text (P := Tryz.prog) (w := w.drew) 323 it ty 5 Tryz.underlying323 (by kernel_rfl) g off cells hsh l h0 hn (by omega) hcell
  clear hcell hsh h0 hn c0
  go_enter Tryz.func329, Tryz.ntmps329
  go_wp2
  go_region
  all_goals (go_wp2; go_ret; exact ⟨rfl, rfl⟩)
theorem bytes_at {cs : List BV} : ∀ {bs : List UInt8}, bytesIn cs = some bs → bs.length = cs.length ∧ ∀ (j : Nat) (x : UInt8), bs[j]? = some x → cs[j]? = some (.k (.int .u8 x.toNat)) := by
  induction cs with
  | nil =>
    intro bs h
    simp only [bytesIn, Option.some.injEq] at h
    subst h
    exact ⟨rfl, fun j x hj => by simp at hj⟩
  | cons c cs ih =>
    intro bs h
    match c, h with
    | .k (.int .u8 n), h =>
      simp only [bytesIn] at h
      split at h
      · rename_i hr
        split at h
        · rename_i r e
          cases h
          obtain ⟨k1, k2⟩ := ih e
          refine ⟨by simp [k1], fun j x hj => ?_⟩
          cases j with
          | zero =>
            simp at hj ⊢
            subst hj
            have : n.toNat < 256 := by omega
            simp [Nat.mod_eq_of_lt this]
            omega
          | succ j => simpa using k2 j x (by simpa using hj)
        · cases h
      · cases h
theorem text_ok (hP : C.P = Tryz.prog) {args : List AV} {r : AV} (hr : text_ 329 args h = some (r, h')) {us : Array Value} (R0 : Rep C N0 E h w) (hl : args.length = us.size)
    (hat : ∀ (i : Nat) (x : AV) (u : Value), args[i]? = some x → us[i]? = some u → IsA E x u) :
    Calls C.P 329 us w fun e w' => ∃ v E', e = .returned v ∧ IsA E' r v ∧ Step C N0 E h w E' h' w' := by
  rw [hP]
  unfold text_ at hr
  split at hr
  · rename_i x
    split at hr
    · rename_i b off e1
      obtain ⟨u, rfl⟩ : ∃ u, us = #[u] := Array.size_eq_one_iff.1 (by simpa using hl.symm)
      obtain ⟨l, hb, hu⟩ := asOne_is e1 (hat 0 x u rfl rfl)
      subst hu
      split at hr
      · rename_i e2
        cases hr
        obtain ⟨vs, hL, hlen, hc⟩ := readCells_is R0 e2 hb
        obtain ⟨v, rfl⟩ := List.length_eq_one_iff.1 hlen
        obtain ⟨hv, _⟩ := hL
        cases hv
        have c0 := hc 0 _ rfl
        refine (text_none l.r (l.s + off) w (by simpa [Nat.add_assoc] using c0)).mono ?_
        rintro e w' ⟨rfl, rfl⟩
        exact ⟨_, E, rfl, rfl, step_drew R0⟩
      · rename_i b2 o n c e2
        split at hr
        · rename_i cs s e3
          split at hr
          · rename_i hcond
            split at hr
            · rename_i bs e4
              cases hr
              obtain ⟨hn0, hc0, hn65, hs6, hon⟩ := hcond
              obtain ⟨vs, hL, hlen, hc⟩ := readCells_is R0 e2 hb
              obtain ⟨v, rfl⟩ := List.length_eq_one_iff.1 hlen
              obtain ⟨⟨m, hm, rfl⟩, _⟩ := hL
              have c0 := hc 0 _ rfl
              obtain ⟨m', em, X, t, fr, hw, hX, hf, hd, hs⟩ := R0.live b2 _ e3
              obtain rfl : m = m' := by rw [hm] at em; exact Option.some.inj em
              obtain ⟨ht, _⟩ := hd.2 5 hs6
              subst ht
              obtain ⟨k1, k2⟩ := bytes_at e4
              have hbl : bs.length = n := by
                rw [k1]
                simp
                omega
              subst hbl
              have hne : bs ≠ [] := by
                intro e
                rw [e] at hn0
                cases hn0
              refine (text_some l.r (l.s + off) m.r (m.s + o) X.size (c + m.d) bs w hne (by simpa [Nat.add_assoc] using c0) (by omega) (by simp [World.shape?, hw]) (by omega) hn65 fun j x hj => ?_).mono ?_
              · have hjl : j < bs.length := (List.getElem?_eq_some_iff.1 hj).1
                have := k2 j x hj
                rw [List.getElem?_take, if_pos hjl, List.getElem?_drop] at this
                obtain ⟨v, hv, hvb⟩ := hX _ _ this
                cases hvb
                rw [add_here, cell_of hw, Nat.add_assoc]
                exact hv
              · rintro e w' ⟨rfl, rfl⟩
                refine ⟨_, E, rfl, rfl, (step_drew R0).trans (step_lose (step_drew R0).rep e3 hm (freeze_size _ _ _) (fun k hk => freeze_other _ _ _ _ hk) (freeze_os _ _ _).1 (freeze_os _ _ _).2.1 (freeze_os _ _ _).2.2)⟩
            · cases hr
          · cases hr
        · cases hr
      · cases hr
    · cases hr
  · cases hr
theorem special_ok (hP : C.P = Tryz.prog) {call : CallF} (hc : CallOk C N0 call) : CallOk C N0 (special_ C call) := by
  intro f args h r h' hr E w us R0 hl hat
  unfold special_ at hr
  split at hr
  · rename_i e
    subst e
    exact catch_ok hP hc hr R0 hl hat
  · split at hr
    · rename_i e
      subst e
      exact check_ok hP hr R0 hl hat
    · split at hr
      · rename_i e
        subst e
        exact text_ok hP hr R0 hl hat
      · cases hr
end Go.Proofs.YtlhaaokldjdnnaaGreatDoor.Ev
namespace Go.Proofs.YtlhaaokldjdnnaaGreatDoor.Ev
open Go.RowKit
set_option linter.unusedVariables false
set_option linter.unusedSimpArgs false

/-- A closed call, and its answer. -/
structure Ent where
  f : FuncId
  args : List AV
  r : AV
def sameAs : List AV → List AV → Bool
  | [], [] => true
  | x :: l, y :: m => sameA x y && sameAs l m
  | _, _ => false
def orcOf : List Ent → FuncId → List AV → Option AV
  | [], _, _ => none
  | e :: l, f, args => cond (Nat.beq e.f f && sameAs e.args args) (some e.r) (orcOf l f args)
theorem sameAs_is : ∀ {l m : List AV}, sameAs l m = true → l = m
  | [], [], _ => rfl
  | x :: l, y :: m, h => by
    simp only [sameAs, Bool.and_eq_true] at h
    rw [sameA_is h.1, sameAs_is h.2]
  | [], _ :: _, h => by cases h
  | _ :: _, [], h => by cases h
/-- strings.asciiSpace. -/
def space (g i : Nat) : Option Value := if g = 0 then (if i < 256 then some (.int .u8 (if (9 ≤ i ∧ i ≤ 13) ∨ i = 32 then 1 else 0)) else none) else none
noncomputable def cfg : Cfg := { P := Tryz.prog, table := space, marked := fun t => t == 288 || t == 5 }
noncomputable def outOf (l : List Ent) : Out := { orc := orcOf l, plan := plan, special := special_ cfg }
/-- How many blocks the package-level variables take, at least. -/
def base0 : Nat := 1
def Told (w : World) : Prop := base0 ≤ w.heap.size ∧ ∀ g i v, space g i = some v → w.cell? ⟨g, i, none⟩ = some v
def Said (e : Ent) : Prop := ∃ us v, closedAs e.args = some us ∧ closed e.r = some v ∧ ∀ w : World, Told w → Calls Tryz.prog e.f us.toArray w fun x w' => x = .returned v ∧ Below w.heap.size w w'
theorem orcOf_is {l : List Ent} : ∀ {f : FuncId} {args : List AV} {r : AV}, orcOf l f args = some r → ∃ e ∈ l, e.f = f ∧ e.args = args ∧ e.r = r := by
  induction l with
  | nil => intro f args r h; cases h
  | cons e l ih =>
    intro f args r h
    unfold orcOf at h
    cases hc : (Nat.beq e.f f && sameAs e.args args) with
    | true =>
      rw [hc] at h
      simp only [Bool.and_eq_true] at hc
      exact ⟨e, by simp, Nat.eq_of_beq_eq_true hc.1, sameAs_is hc.2, Option.some.inj h⟩
    | false =>
      rw [hc] at h
      obtain ⟨e', h1, h2⟩ := ih h
      exact ⟨e', by simp [h1], h2⟩
theorem out_ok {l : List Ent} (hl : ∀ e ∈ l, Said e) : OutOk cfg base0 (outOf l) where
  mixed := by kernel_rfl
  plans := plans_fit
  orc f args r h := by
    obtain ⟨e, hm, rfl, rfl, rfl⟩ := orcOf_is h
    obtain ⟨us, v, h1, h2, h3⟩ := hl e hm
    exact ⟨us, v, h1, h2, fun w hN ht => h3 w ⟨hN, ht⟩⟩
  special call hc := special_ok rfl hc
/-- A closed call by the evaluator. -/
def shutB (l : List Ent) (e : Ent) (C : Cfg) (V : Out) : Bool := match evCall C V 100000 e.f e.args { blocks := [], next := 0 } with
  | some (r, _) => sameA r e.r && (closedAs e.args).isSome && (closed e.r).isSome
  | none => false
theorem said_of {l : List Ent} (hl : ∀ e ∈ l, Said e) {e : Ent} (h : shutB l e cfg (outOf l) = true) : Said e := by
  unfold shutB at h
  split at h
  · rename_i r h' he
    simp only [Bool.and_eq_true] at h
    obtain ⟨us, hus⟩ := Option.isSome_iff_exists.1 h.1.2
    obtain ⟨v, hv⟩ := Option.isSome_iff_exists.1 h.2
    have hr := sameA_is h.1.1
    refine ⟨us, v, hus, hv, fun w hw => ?_⟩
    exact closed_call (out_ok hl) (fun g i v hs => by
      have hs : space g i = some v := hs
      unfold space at hs
      split at hs
      · rename_i hg
        subst hg
        decide
      · cases hs) hus (hr ▸ he) hv w hw.1 hw.2
  · cases h
theorem all_nil : ∀ e ∈ ([] : List Ent), Said e := fun e h => by cases h
theorem all_cons {a : Ent} {l : List Ent} (h : Said a) (k : ∀ e ∈ l, Said e) : ∀ e ∈ a :: l, Said e := fun e he => by
  rcases List.mem_cons.1 he with rfl | he
  · exact h
  · exact k e he
/-- Texts as lists of numbers. -/
def tx (l : List Nat) : AV := plain (.string ⟨(l.map UInt8.ofNat).toArray⟩)
def bo (b : Bool) : AV := plain (.bool b)
def nu (n : Int) : AV := plain (.int .i64 n)
def vT (l : List Nat) : BV := .k (.string ⟨(l.map UInt8.ofNat).toArray⟩)
def vB (b : Bool) : BV := .k (.bool b)
def vI (n : Int) : BV := .k (.int .i64 n)
end Go.Proofs.YtlhaaokldjdnnaaGreatDoor.Ev
namespace Go.Proofs.YtlhaaokldjdnnaaGreatDoor.Ev
open Go.RowKit
set_option linter.unusedVariables false
set_option linter.unusedSimpArgs false
def strsB (C : Cfg) (V : Out) (f : FuncId) (args : List AV) (l : List (List UInt8)) : Bool :=
  match evCall C V 100000 f args { blocks := [], next := 0 } with
  | some (.val ⟨false, [.slc b off n _]⟩, h) => n == l.length && (match readCells h b off n with
    | some cs => sameL cs (l.map fun s => .k (.string ⟨s.toArray⟩))
    | none => false)
  | _ => false
theorem hg_cfg (g i : Nat) (v : Value) (hs : cfg.table g i = some v) : g < base0 := by
  have hs : space g i = some v := hs
  unfold space at hs
  split at hs
  · rename_i hg
    subst hg
    decide
  · cases hs
theorem rep_none {w : World} (hw : Told w) (m : Nat) : Rep cfg base0 (fun _ => none) { blocks := [], next := m } w := by
  have nn : ∀ b x, ({ blocks := [], next := m } : Hp).get b = some x → False := fun b x hb => by cases hb
  exact ⟨fun b x hb => (nn b x hb).elim, fun b b' x x' l l' hb => (nn b x hb).elim, fun b l e => (by cases e), fun b x l hb => (nn b x hb).elim, fun g i v e => ⟨hg_cfg g i v e, hw.2 g i v e⟩, hw.1⟩
theorem below_of {w w' : World} {E' : Env} {h' : Hp} {m : Nat} (hs : Step cfg base0 (fun _ => none) { blocks := [], next := m } w E' h' w') : Below w.heap.size w w' :=
  ⟨hs.os, hs.tape, hs.output, hs.size, fun k hk => hs.keep k hk fun b x l hb => by cases hb⟩
theorem isL_strs {E : Env} : ∀ {l : List (List UInt8)} {vs : List Value}, IsL E (l.map fun s => .k (.string ⟨s.toArray⟩)) vs → vs = l.map fun s => Value.string ⟨s.toArray⟩
  | [], [], _ => rfl
  | s :: l, v :: vs, h => by
    obtain ⟨h1, h2⟩ := h
    rw [isL_strs h2, show v = _ from h1]
    rfl
  | [], _ :: _, h => h.elim
  | _ :: _, [], h => h.elim
theorem strs_of {l : List Ent} (hl : ∀ e ∈ l, Said e) {f : FuncId} {args : List AV} {us : List Value} (ha : closedAs args = some us) {ss : List (List UInt8)} (h : strsB cfg (outOf l) f args ss = true) (w : World) (hw : Told w) :
    Calls Tryz.prog f us.toArray w fun e w' => (∃ g off cap, e = .returned (.slice (some ⟨g, off, none⟩) ss.length cap) ∧ w.heap.size ≤ g ∧ ∀ j s, ss[j]? = some s → w'.cell? ⟨g, off + j, none⟩ = some (.string ⟨s.toArray⟩)) ∧ Below w.heap.size w w' := by
  unfold strsB at h
  split at h
  · rename_i b off n cap h' he
    simp only [Bool.and_eq_true, beq_iff_eq] at h
    obtain ⟨hn, h2⟩ := h
    split at h2
    · rename_i cs hr
      have hcs := sameL_is h2
      subst hcs hn
      obtain ⟨k1, k2⟩ := closedAs_at (fun _ => none) ha
      refine Calls.mono (call_is (out_ok hl) 100000 f args _ _ h' he (fun _ => none) w us.toArray (rep_none hw 0) (by simpa using k1) fun i x u hx hu => k2 i x u hx (by simpa using hu)) fun e w' hh => ?_
      obtain ⟨v, E', rfl, hv, hs⟩ := hh
      have hv : IsB E' (.slc b off ss.length cap) v := hv
      obtain ⟨m, hm, rfl⟩ := hv
      obtain ⟨vs, hL, hlen, hc⟩ := readCells_is hs.rep hr hm
      have hvs := isL_strs hL
      subst hvs
      have hlive : ∃ x, h'.get b = some x := by
        unfold readCells at hr
        cases hb : h'.get b with
        | none => rw [hb] at hr; cases hr
        | some x => exact ⟨x, rfl⟩
      obtain ⟨x, hx⟩ := hlive
      refine ⟨⟨m.r, m.s + off, cap + m.d, rfl, ?_, fun j s hj => hc j _ (by simp [hj])⟩, below_of hs⟩
      rcases hs.own b x m hx hm with h1 | ⟨b0, x0, l0, hb0, _⟩
      · exact h1
      · cases hb0
    · cases h2
  · cases h

/-- .. a list of elements of four texts each. -/
def quadB (C : Cfg) (V : Out) (f : FuncId) (args : List AV) (n : Nat) (l : List (List UInt8)) : Bool :=
  match evCall C V 100000 f args { blocks := [], next := 0 } with
  | some (.val ⟨false, [.slc b off m _]⟩, h) => m == n && l.length == n * 4 && (match readCells h b off (n * 4) with
    | some cs => sameL cs (l.map fun s => .k (.string ⟨s.toArray⟩))
    | none => false)
  | _ => false
theorem quad_of {l : List Ent} (hl : ∀ e ∈ l, Said e) {f : FuncId} {args : List AV} {us : List Value} (ha : closedAs args = some us) {n : Nat} {ss : List (List UInt8)} (h : quadB cfg (outOf l) f args n ss = true) (w : World) (hw : Told w) :
    Calls Tryz.prog f us.toArray w fun e w' => (∃ g off cap, e = .returned (.slice (some ⟨g, off, none⟩) n cap) ∧ w.heap.size ≤ g ∧ ∀ j s, ss[j]? = some s → w'.cell? ⟨g, off + j, none⟩ = some (.string ⟨s.toArray⟩)) ∧ Below w.heap.size w w' := by
  unfold quadB at h
  split at h
  · rename_i b off m cap h' he
    simp only [Bool.and_eq_true, beq_iff_eq] at h
    obtain ⟨⟨hn, hn2⟩, h2⟩ := h
    split at h2
    · rename_i cs hr
      have hcs := sameL_is h2
      subst hcs hn
      obtain ⟨k1, k2⟩ := closedAs_at (fun _ => none) ha
      refine Calls.mono (call_is (out_ok hl) 100000 f args _ _ h' he (fun _ => none) w us.toArray (rep_none hw 0) (by simpa using k1) fun i x u hx hu => k2 i x u hx (by simpa using hu)) fun e w' hh => ?_
      obtain ⟨v, E', rfl, hv, hs⟩ := hh
      have hv : IsB E' (.slc b off m cap) v := hv
      obtain ⟨k, hk, rfl⟩ := hv
      obtain ⟨vs, hL, hlen, hc⟩ := readCells_is hs.rep hr hk
      have hvs := isL_strs hL
      subst hvs
      have hlive : ∃ x, h'.get b = some x := by
        unfold readCells at hr
        cases hb : h'.get b with
        | none => rw [hb] at hr; cases hr
        | some x => exact ⟨x, rfl⟩
      obtain ⟨x, hx⟩ := hlive
      refine ⟨⟨k.r, k.s + off, cap + k.d, rfl, ?_, fun j s hj => hc j _ (by simp [hj])⟩, below_of hs⟩
      rcases hs.own b x k hx hk with h1 | ⟨b0, x0, l0, hb0, _⟩
      · exact h1
      · cases hb0
    · cases h2
  · cases h
end Go.Proofs.YtlhaaokldjdnnaaGreatDoor.Ev
