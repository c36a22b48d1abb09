/-
  Parts, one behind the other: Small plain lemmas for the walks of this seat: endings, numbers, bytes, owned rows, regions that draw their order. No condition; nothing of the program stands here. | Bytes that are held in pieces, some of the first one's gone: what is held when a piece comes, and when bytes go. Plain lists; no condition; nothing of the program stands here.
-/
import Derived.WalkKit
import Derived.WalkLawsBesides
import Derived.WalkSpells
import Derived.Handy
import Derived.Lib.Strings
import Derived.Lib.Hide
import Derived.StillTailTactics
import Derived.Deep.Draws
import Derived.BigQuiet
import Derived.Deep.RegionHeld3
import Derived.Deep.DeepCutAuto
namespace Go.Proofs.YtlhaaokldjdnnaaGreatDoor
open Go.RowKit
set_option linter.unusedVariables false
set_option linter.unusedSimpArgs false

theorem ret_int {k : IntKind} {a b : Int} (h : a = b) : Ending.returned (.int k a) = .returned (.int k b) := by rw [h]
theorem ret_bool {a b : Bool} (h : a = b) : Ending.returned (.bool a) = .returned (.bool b) := by rw [h]
theorem ret_string {a b : ByteArray} (h : a = b) : Ending.returned (.string a) = .returned (.string b) := by rw [h]

theorem u8_of (a : Int) (h : (Lit.int .u8 a).wf = true) : ∃ n : Nat, a = n ∧ n < 256 := by
  have hb := bounds_u8 h
  exact ⟨a.toNat, by omega, by omega⟩
theorem u16_of (a : Int) (h : (Lit.int .u16 a).wf = true) : ∃ n : Nat, a = n ∧ n < 65536 := by
  have hb := bounds_u16 h
  exact ⟨a.toNat, by omega, by omega⟩
theorem u64_of (a : Int) (h : (Lit.int .u64 a).wf = true) : ∃ n : Nat, a = n ∧ n < 18446744073709551616 := by
  have hb := bounds_u64 h
  exact ⟨a.toNat, by omega, by omega⟩

theorem byte_at (s : ByteArray) (k : Nat) (h : k < s.size) : s.data.toList[k]'(by rw [← Lib.size_eq]; exact h) = s[k] := by
  simp [ByteArray.getElem_eq_getElem_data]
theorem take_snoc (s : ByteArray) (k : Nat) (h : k < s.size) : s.data.toList.take (k + 1) = s.data.toList.take k ++ [s[k]] := by
  rw [List.take_succ_eq_append_getElem (by rw [← Lib.size_eq]; exact h), byte_at s k h]
theorem extract_all (s : ByteArray) (n : Nat) (h : s.size ≤ n) : s.extract 0 n = s := by
  rw [Lib.extract_eq]
  simp only [List.drop_zero, Nat.sub_zero]
  rw [List.take_of_length_le (by rw [← Lib.size_eq]; exact h), Lib.mk_data]
theorem extract_size (s : ByteArray) (a b : Nat) (h : b ≤ s.size) : (s.extract a b).size = b - a := by
  rw [ByteArray.size_extract, Nat.min_eq_left h]
theorem extract_cut_le (s : ByteArray) (n : Nat) : (s.extract 0 n).size ≤ n ∧ (s.extract 0 n).size ≤ s.size := by
  rw [ByteArray.size_extract]
  omega
theorem size_mk (l : List UInt8) : (⟨l.toArray⟩ : ByteArray).size = l.length := by simp [ByteArray.size]
theorem data_mk (l : List UInt8) : (⟨l.toArray⟩ : ByteArray).data.toList = l := rfl
theorem ext_data {s t : ByteArray} (h : s.data.toList = t.data.toList) : s = t := by
  rw [← Lib.mk_data s, ← Lib.mk_data t, h]

section
variable {P : Program}

/-- A row of bytes of the call's own, as a text. -/
theorem own_string (T E S : TypeId) (hT : P.underlying T = some (.slice E)) (hE : P.underlying E = some (.int .u8)) (hS : P.underlying S = some .string)
    (w : World) (B n : Nat) (v : Value) (l : List UInt8) (hn : l.length = n) (h : w.ownsRow B E 1 v n (l.map fun c => Value.int .u8 (c.toNat : Int))) :
    (convert T S v).run P w = .ok (.string ⟨l.toArray⟩) w := by
  rcases h.2 with ⟨rfl, h0⟩ | ⟨g, cap, cur, rfl, _, _, _⟩
  · have : l = [] := List.eq_nil_of_length_eq_zero (by omega)
    subst this
    exact run_convert_bytes_nil w T E hT hE 0 0 S hS
  · subst hn
    refine run_convert_bytes_back w T S E _ cap l hT hE hS (fun j hj => ?_)
    exact h.cells (g := g) rfl j _ (by simp [List.getElem?_eq_getElem hj])

/-- A region that draws its order, whose first n operations leave the world alone: the world behind the draws is a name. -/
theorem still_tail {id : Nat} {Q : Exit → Act → World → Prop} {a : Act} {w : World} {l : List Oper} (n : Nat) (hm : P.follows .mixedOrders = true) (hB : Region.lexTailB .any l.toArray n = true)
    (h : ∀ wd, wd = w.drew → wpStill P l.toArray wd (fun a' => wpList P l.toArray Q (l.drop n) a' wd) (l.take n) a) : (Code.region id l.toArray true).wp P Q a w :=
  wp_region_still_tail n hm hB (h w.drew rfl)

theorem still_of {f : FuncId} {args : Array Value} {w : World} {v : Value} (h : Calls P f args w fun e w' => e = .returned v ∧ w = w') :
    Calls P f args w fun e w'' => e = .returned v ∧ w'' = w := h.mono fun _ _ h => ⟨h.1, h.2.symm⟩
end

theorem below_drewN {B : Nat} {a w : World} (h : Below B a w) (n : Nat) : Below B a (w.drewN n) := ⟨h.os, h.tape, h.output, h.size, h.block⟩
/-- One call behind another. -/
theorem below_then {a b c : World} {B : Nat} (h : Below B a b) (hB : B ≤ a.heap.size) (k : Below b.heap.size b c) : Below B a c :=
  h.trans (k.mono (Nat.le_trans hB h.size))

/-! ### A region that draws its order and holds calls that make memory: each operation yields one value in every world that is the world at hand, with new blocks behind it. -/

/-- What may come to a world: blocks, and a count of draws. -/
structure More where
  blocks : Array Obj
  draws : Nat
instance : Inhabited More := ⟨⟨#[], 0⟩⟩
/-- The world with more blocks behind it, and whatever count of draws. -/
def plus (w : World) (X : More) : World := { w with heap := w.heap ++ X.blocks, drawn := X.draws }
theorem plus_get (w : World) (X : More) (k : Nat) (h : k < w.heap.size) : (plus w X).heap[k]? = w.heap[k]? := by
  show (w.heap ++ X.blocks)[k]? = _
  rw [Array.getElem?_append_left h]
theorem plus_below (w : World) (X : More) : Below w.heap.size w (plus w X) :=
  ⟨rfl, rfl, rfl, by show _ ≤ (w.heap ++ X.blocks).size; simp, fun k hk => plus_get w X k hk⟩
theorem below_plus {w w' : World} (h : Below w.heap.size w w') : ∃ X, w' = plus w X := by
  refine ⟨⟨w'.heap.extract w.heap.size w'.heap.size, w'.drawn⟩, ?_⟩
  have e : w'.heap = w.heap ++ w'.heap.extract w.heap.size w'.heap.size := by
    apply Array.ext_getElem?
    intro k
    by_cases hk : k < w.heap.size
    · rw [Array.getElem?_append_left hk]
      exact h.block k hk
    · have hs := h.size
      rw [Array.getElem?_append_right (by omega), Array.getElem?_extract]
      by_cases hk2 : k < w'.heap.size
      · rw [if_pos (by omega)]
        congr 1
        omega
      · rw [if_neg (by omega), Array.getElem?_eq_none (by omega)]
  cases w
  cases w'
  have h1 := h.os
  have h2 := h.tape
  have h3 := h.output
  simp only at h1 h2 h3 e
  subst h1 h2 h3
  simp only [plus]
  rw [← e]
theorem lt_of_cell {w : World} {p : Addr} {v : Value} (h : w.cell? p = some v) : p.block < w.heap.size := by
  rcases Nat.lt_or_ge p.block w.heap.size with hlt | hge
  · exact hlt
  · simp [World.cell?, Array.getElem?_eq_none hge] at h
theorem plus_cell (w : World) (X : More) (p : Addr) (v : Value) (h : w.cell? p = some v) : (plus w X).cell? p = some v :=
  (World.cell?_of_block (plus_get w X p.block (lt_of_cell h))).trans h
theorem plus_size (w : World) (X : More) : (plus w X).heap.size = w.heap.size + X.blocks.size := by
  show (w.heap ++ X.blocks).size = _
  simp
theorem plus_drew (w : World) : ({ w with drawn := w.drawn + 1 } : World) = plus w ⟨#[], w.drawn + 1⟩ := by
  unfold plus
  rw [Array.append_empty]

section
variable {P : Program}
theorem wp_region_plus {id : Nat} {Q : Exit → Act → World → Prop} {a : Act} {w : World} {l : List Oper} (hm : P.follows .mixedOrders = true) (hB : Region.lexB .any l.toArray = true)
    (h : wpQuiet P l.toArray (fun w' => ∃ X, w' = plus w X) (fun a' => ∀ w', (∃ X, w' = plus w X) → Q .normal a' w') l a) : (Code.region id l.toArray true).wp P Q a w :=
  wp_region_quiet (C := fun w' => ∃ X, w' = plus w X) hm hB ⟨⟨#[], w.drawn + 1⟩, plus_drew w⟩ (by simpa using h)

/-- A callee that makes memory, behind whatever was made. -/
theorem plus_call {f : FuncId} {args : Array Value} {w : World} {X : More} {v : Value}
    (h : Calls P f args (plus w X) fun e w' => e = .returned v ∧ Below (plus w X).heap.size (plus w X) w') :
    Calls P f args (plus w X) fun e w'' => e = .returned v ∧ ∃ X', w'' = plus w X' :=
  h.mono fun _ _ ⟨he, hb⟩ => ⟨he, below_plus ((plus_below w X).trans (hb.mono (plus_below w X).size))⟩
theorem plus_same {f : FuncId} {args : Array Value} {w : World} {X : More} {v : Value}
    (h : Calls P f args (plus w X) fun e w' => e = .returned v ∧ plus w X = w') :
    Calls P f args (plus w X) fun e w'' => e = .returned v ∧ ∃ X', w'' = plus w X' :=
  h.mono fun _ _ ⟨he, hb⟩ => ⟨he, X, hb.symm⟩
end

end Go.Proofs.YtlhaaokldjdnnaaGreatDoor
namespace Go.Proofs.YtlhaaokldjdnnaaGreatDoor
open Go.RowKit
set_option linter.unusedVariables false
set_option linter.unusedSimpArgs false

def flat (l : List ByteArray) : List UInt8 := l.flatMap fun p => p.data.toList
theorem flat_nil : flat [] = [] := rfl
theorem flat_cons (p : ByteArray) (t : List ByteArray) : flat (p :: t) = p.data.toList ++ flat t := rfl
theorem flat_snoc (l : List ByteArray) (p : ByteArray) : flat (l ++ [p]) = flat l ++ p.data.toList := by simp [flat]

/-- The pieces l, of which the first k bytes of the first one are gone, hold cs; no piece is empty. -/
structure Held (l : List ByteArray) (k : Nat) (cs : List UInt8) : Prop where
  bytes : cs = (flat l).drop k
  pos : ∀ p ∈ l, 0 < p.size
  head : ∀ p ∈ l.head?, k < p.size
  none_ : l = [] → k = 0
  big : ∀ p ∈ l, p.size ≤ 1048576

theorem Held.start : Held [] 0 [] := ⟨rfl, (fun p h => by cases h), (fun p h => by cases h), (fun _ => rfl), fun p h => by cases h⟩
theorem size_flat (l : List ByteArray) (h : ∀ p ∈ l, 0 < p.size) : l.length ≤ (flat l).length := by
  induction l with
  | nil => simp [flat]
  | cons p t ih =>
    have := ih fun q hq => h q (List.mem_cons_of_mem _ hq)
    have hp := h p (List.mem_cons_self ..)
    rw [flat_cons, List.length_append, List.length_cons, ← Lib.size_eq]
    omega

section
variable {l : List ByteArray} {k : Nat} {cs : List UInt8}
theorem Held.le (h : Held l k cs) : k ≤ (flat l).length := by
  cases l with
  | nil => rw [h.none_ rfl]; exact Nat.zero_le _
  | cons p t =>
    have := h.head p (by simp)
    rw [flat_cons, List.length_append, ← Lib.size_eq]
    omega
theorem Held.many (h : Held l k cs) : l.length ≤ cs.length := by
  rw [h.bytes, List.length_drop]
  cases l with
  | nil => simp
  | cons p t =>
    have h1 := h.head p (by simp)
    have h2 := size_flat t fun q hq => h.pos q (List.mem_cons_of_mem _ hq)
    rw [flat_cons, List.length_append, List.length_cons, ← Lib.size_eq]
    omega
theorem Held.push (h : Held l k cs) (s : ByteArray) (hs : 0 < s.size) (hb : s.size ≤ 1048576) : Held (l ++ [s]) k (cs ++ s.data.toList) := by
  refine ⟨?_, ?_, ?_, ?_, ?_⟩
  · rw [flat_snoc, List.drop_append_of_le_length h.le, h.bytes]
  · intro p hp
    rcases List.mem_append.1 hp with hp | hp
    · exact h.pos p hp
    · simp at hp
      subst hp
      exact hs
  · intro p hp
    cases l with
    | nil =>
      have := h.none_ rfl
      subst this
      simp at hp
      subst hp
      exact hs
    | cons q t => exact h.head p (by simpa using hp)
  · intro e
    simp at e
  · intro p hp
    rcases List.mem_append.1 hp with hp | hp
    · exact h.big p hp
    · simp at hp
      subst hp
      exact hb
theorem Held.ex (h : Held l k cs) (hc : 0 < cs.length) : ∃ p t, l = p :: t ∧ k < p.size := by
  cases l with
  | nil =>
    rw [h.bytes] at hc
    simp [flat] at hc
  | cons p t => exact ⟨p, t, rfl, h.head p (by simp)⟩
end

section
variable {p : ByteArray} {t : List ByteArray} {k : Nat} {cs : List UInt8}
theorem Held.cut (h : Held (p :: t) k cs) : cs = p.data.toList.drop k ++ flat t := by
  have hk := h.head p (by simp)
  rw [h.bytes, flat_cons, List.drop_append_of_le_length (by rw [← Lib.size_eq]; omega)]
theorem Held.size (h : Held (p :: t) k cs) : p.size - k ≤ cs.length := by
  rw [h.cut, List.length_append, List.length_drop, ← Lib.size_eq]
  omega
/-- The first piece's bytes go. -/
theorem Held.next (h : Held (p :: t) k cs) : Held t 0 (cs.drop (p.size - k)) := by
  refine ⟨?_, fun q hq => h.pos q (List.mem_cons_of_mem _ hq), fun q hq => ?_, fun _ => rfl, fun q hq => h.big q (List.mem_cons_of_mem _ hq)⟩
  · have e : (p.data.toList.drop k).length = p.size - k := by rw [List.length_drop, ← Lib.size_eq]
    rw [h.cut, ← e, List.drop_left, List.drop_zero]
  · cases t with
    | nil => cases hq
    | cons r u =>
      simp at hq
      subst hq
      exact h.pos r (by simp)
/-- Some of the first piece's bytes go. -/
theorem Held.some_ (h : Held (p :: t) k cs) (j : Nat) (hj : k + j < p.size) : Held (p :: t) (k + j) (cs.drop j) := by
  refine ⟨?_, h.pos, fun q hq => ?_, (fun e => by cases e), h.big⟩
  · rw [h.bytes, List.drop_drop]
  · simp at hq
    subst hq
    exact hj
/-- The first bytes, so many, of those of the first piece. -/
theorem Held.take (h : Held (p :: t) k cs) (j : Nat) (hj : j ≤ p.size - k) : cs.take j = (p.data.toList.drop k).take j := by
  rw [h.cut, List.take_append_of_le_length (by rw [List.length_drop, ← Lib.size_eq]; exact hj)]
end
end Go.Proofs.YtlhaaokldjdnnaaGreatDoor
