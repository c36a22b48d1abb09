/-
  Parts, one behind the other: A small evaluator over an abstract memory: definitions alone. Nothing of the program stands here; what it gives is shown in the texts EvRep to EvCalls. | What an abstract memory says of a world, and what a step may do to both. No condition; nothing of the program stands here. | The steps of the abstract memory and of a world beside it: a new block, a block changed, a block forgotten, more blocks that nobody names. No condition; nothing of the program stands here. | Values and slots: what is closed is what it is; an operation whose operands are closed is the model's own. No condition; nothing of the program stands here.
-/
import Derived.Calls
import Derived.Orders
import Derived.Laws.Sem
import Derived.Laws.World
import Derived.Below
namespace Go.Proofs.YtlhaaokldjdnnaaGreatDoor.Ev
set_option linter.unusedVariables false
set_option linter.unusedSimpArgs false

/-- What one cell holds: a value without an address, or an address of the abstract memory. -/
inductive BV where
  | k (x : Value)
  | ptr (b off : Nat)
  | gp (g off : Nat)
  | slc (b off len cap : Nat)
  | mp (b : Nat)
  | emp (b off : Nat)
  | tl (b off off1 : Nat)
  | fn (f : FuncId) (caps : List (Nat × Nat))
  deriving Inhabited

/-- A value: one cell, or a struct's or an array's cells. -/
structure Cmp where
  isAgg : Bool
  cells : List BV
  deriving Inhabited

inductive AV where
  | val (c : Cmp)
  | tup (l : List Cmp)
  deriving Inhabited

/-- A block: cells (sz = 0: just so many; else there may be room behind them for more elements of sz cells), a map, a text that is ranged over. -/
inductive Blk where
  | cells (c : List BV) (sz : Nat)
  | map (es : List (Value × Cmp × Nat)) (clock : Nat)
  | iter (s : ByteArray) (pos : Nat)
  deriving Inhabited

/-- 'sz' of a block: how many cells an element has of which more may come, plus mark * (its type + 1), if it keeps its type in mind. -/
def mark : Nat := 1048576
def st (sz : Nat) : Nat := sz % mark
structure Hp where
  blocks : List (Nat × Blk)
  next : Nat
  deriving Inhabited

def findB (b : Nat) : List (Nat × Blk) → Option Blk
  | [] => none
  | (c, x) :: l => if c = b then some x else findB b l
def putB (b : Nat) (y : Blk) : List (Nat × Blk) → List (Nat × Blk)
  | [] => []
  | (c, x) :: l => if c = b then (c, y) :: putB b y l else (c, x) :: putB b y l
def dropB (b : Nat) : List (Nat × Blk) → List (Nat × Blk)
  | [] => []
  | (c, x) :: l => if c = b then dropB b l else (c, x) :: dropB b l

def Hp.get (h : Hp) (b : Nat) : Option Blk := findB b h.blocks
def Hp.put (h : Hp) (b : Nat) (y : Blk) : Hp := { h with blocks := putB b y h.blocks }
def Hp.new (h : Hp) (y : Blk) : Hp := { blocks := (h.next, y) :: h.blocks, next := h.next + 1 }
def Hp.drop (h : Hp) (b : Nat) : Hp := { h with blocks := dropB b h.blocks }

/-- What a meaning is that asks nothing of the world. -/
def pureOf {α : Type} (P : Program) : Sem α → Option α
  | .pure a => some a
  | .program k => pureOf P (k P)
  | .mark _ k => pureOf P k
  | .choose q k => if q.forced then pureOf P (k 0) else none
  | _ => none

def one (x : BV) : AV := .val ⟨false, [x]⟩
def plain (x : Value) : AV := one (.k x)
def embC : Value → Cmp
  | .agg cs => ⟨true, cs.toList.map .k⟩
  | v => ⟨false, [.k v]⟩
def emb : Value → AV
  | .tuple vs => if vs.size = 0 then plain (.tuple #[]) else .tup (vs.toList.map embC)
  | v => .val (embC v)

def closedB : BV → Option Value
  | .k x => some x
  | _ => none
def closedL : List BV → Option (List Value)
  | [] => some []
  | .k x :: l => match closedL l with
    | some r => some (x :: r)
    | none => none
  | _ => none
def closedC (c : Cmp) : Option Value :=
  match c.isAgg, c.cells with
  | true, l => (closedL l).map fun r => .agg r.toArray
  | false, [.k x] => some x
  | _, _ => none
def closedCs : List Cmp → Option (List Value)
  | [] => some []
  | c :: l => match closedC c, closedCs l with
    | some x, some r => some (x :: r)
    | _, _ => none
def closed : AV → Option Value
  | .val c => closedC c
  | .tup l => (closedCs l).map fun vs => .tuple vs.toArray

/-- The slots: slot 0 at the root, the odd ones to the left, the even ones to the right. -/
inductive Tmps where
  | e
  | n (l : Tmps) (x : AV) (r : Tmps)
  deriving Inhabited
def getT : Tmps → Nat → AV
  | .e, _ => plain (.tuple #[])
  | .n l x r, i => cond (Nat.beq i 0) x (cond (Nat.beq (Nat.mod i 2) 1) (getT l (Nat.div i 2)) (getT r (Nat.pred (Nat.div i 2))))
def setT : Tmps → Nat → AV → Tmps
  | .e, _, _ => .e
  | .n l x r, i, v => cond (Nat.beq i 0) (.n l v r) (cond (Nat.beq (Nat.mod i 2) 1) (.n (setT l (Nat.div i 2) v) x r) (.n l x (setT r (Nat.pred (Nat.div i 2)) v)))
def hasT : Tmps → Nat → Bool
  | .e, _ => false
  | .n l _ r, i => cond (Nat.beq i 0) true (cond (Nat.beq (Nat.mod i 2) 1) (hasT l (Nat.div i 2)) (hasT r (Nat.pred (Nat.div i 2))))
def halves : List AV → List AV × List AV
  | [] => ([], [])
  | x :: l => (x :: (halves l).2, (halves l).1)
def mkT : Nat → List AV → Tmps
  | 0, _ => .e
  | _ + 1, [] => .e
  | n + 1, x :: l => .n (mkT n (halves l).1) x (mkT n (halves l).2)
def putT (t : Tmps) (d : Option Nat) (v : AV) : Tmps := match d with | some d => setT t d v | none => t

def opd (t : Tmps) : Operand → AV
  | .tmp i => getT t i
  | .const v => emb v
  | .global g => one (.gp g 0)
  | .func f => plain (.func (.func f) #[] #[])

/-- One cell's value, not several. -/
def okCell : BV → Bool
  | .k (.agg _) | .k (.tuple _) => false
  | _ => true
def cellsOf : AV → Option (List BV)
  | .val c => if c.cells.all okCell then (if c.isAgg || c.cells.length == 1 then some c.cells else none) else none
  | .tup _ => none

def bytesIn : List BV → Option (List UInt8)
  | [] => some []
  | .k (.int .u8 n) :: l => if 0 ≤ n ∧ n ≤ 255 then
      match bytesIn l with
      | some r => some (UInt8.ofNat n.toNat :: r)
      | none => none
    else none
  | _ => none

structure Cfg where
  P : Program
  /-- A package-level variable's cell that is known. -/
  table : Nat → Nat → Option Value
  /-- Types whose blocks keep their type in mind. -/
  marked : TypeId → Bool := fun _ => false

variable (C : Cfg)

def szOf (t : TypeId) : Option Nat := pureOf C.P (sizeOf t)
def aggOf (t : TypeId) : Option Bool := pureOf C.P (isAgg t)
def zeroOf (t : TypeId) : Option (List BV) := match pureOf C.P (zeroValue t) with
  | some z => cellsOf (.val (embC z))
  | none => none

def setCells (c : List BV) (off : Nat) : List BV → List BV
  | [] => c
  | x :: xs => setCells (c.set off x) (off + 1) xs

def readCells (h : Hp) (b off n : Nat) : Option (List BV) :=
  match h.get b with
  | some (.cells c _) => if off + n ≤ c.length then some ((c.drop off).take n) else none
  | _ => none
def tableCells (g off : Nat) : Nat → Option (List BV)
  | 0 => some []
  | n + 1 => match C.table g off, tableCells g (off + 1) n with
    | some v, some l => some (.k v :: l)
    | _, _ => none
def readAt (h : Hp) (p : BV) (n : Nat) : Option (List BV) :=
  match p with
  | .ptr b off => readCells h b off n
  | .gp g off => tableCells C g off n
  | _ => none

def asOne : AV → Option BV
  | .val ⟨false, [x]⟩ => some x
  | _ => none
def intOf : AV → Option Int
  | .val ⟨false, [.k (.int _ n)]⟩ => some n
  | _ => none

def load (t : TypeId) (a : AV) (h : Hp) : Option AV :=
  match asOne a, aggOf C t, szOf C t with
  | some p, some g, some n => match readAt C h p (if g then n else 1) with
    | some cs => some (.val ⟨g, cs⟩)
    | none => none
  | _, _, _ => none

def store (t : TypeId) (a x : AV) (h : Hp) : Option Hp :=
  match asOne a, cellsOf x, szOf C t with
  | some (.ptr b off), some cs, some n => match h.get b with
    | some (.cells c s) => if cs.length = n ∧ off + cs.length ≤ c.length then some (h.put b (.cells (setCells c off cs) s)) else none
    | _ => none
  | _, _, _ => none

def fillB (place : Nat → Option (Nat × Nat)) (cells : List BV) : List (Nat × List BV) → Option (List BV)
  | [] => some cells
  | (i, v) :: rest =>
    match place i with
    | none => none
    | some (off, size) => if v.length ≠ size || off + v.length > cells.length then none else fillB place (setCells cells off v) rest

def partsOf (t : Tmps) : List (Nat × Operand) → Option (List (Nat × List BV))
  | [] => some []
  | (i, x) :: l => match cellsOf (opd t x), partsOf t l with
    | some c, some r => some ((i, c) :: r)
    | _, _ => none

def placesOf : List Field → Option (List (Nat × Nat))
  | [] => some []
  | f :: l => match szOf C f.type, placesOf l with
    | some n, some r => some ((f.offset, n) :: r)
    | _, _ => none

def build (ty : TypeId) (ps : List (Nat × List BV)) : Option AV :=
  match zeroOf C ty with
  | none => none
  | some zero =>
    match C.P.underlying ty with
    | some (.struct fields) => match placesOf C fields.toList with
      | some places => (fillB (places[·]?) zero ps).map fun cs => .val ⟨true, cs⟩
      | none => none
    | some (.array _ elem) => match szOf C elem with
      | some size => (fillB (fun i => some (i * size, size)) zero ps).map fun cs => .val ⟨true, cs⟩
      | none => none
    | _ => none

def repl (zero : List BV) : Nat → List BV
  | 0 => []
  | n + 1 => zero ++ repl zero n

/-- A slice's element's type and its size. -/
def elemOf (t : TypeId) : Option (TypeId × Nat) :=
  match C.P.underlying t with
  | some (.slice e) => match szOf C e with
    | some n => some (e, n)
    | none => none
  | _ => none

def bound (x : Option AV) (d most : Nat) : Option Nat :=
  match x with
  | none => some d
  | some v => match intOf v with
    | some i => if 0 ≤ i ∧ i ≤ most then some i.toNat else none
    | none => none

def sliceS (ty : TypeId) (x : AV) (lo hi : Option AV) (hp : Hp) : Option AV :=
  match asOne x, elemOf C ty with
  | some (.slc b off len cap), some (_, size) => match bound hi len cap with
    | some h => match bound lo 0 h with
      | some l =>
        if l < cap ∨ l = 0 then some (one (.slc b (off + l * size) (h - l) (cap - l)))
        else match hp.get b with
          | some (.cells _ 0) => if l = cap then some (one (.slc b off (h - l) 0)) else none
          | some (.cells _ (_ + 1)) => if l = cap ∧ h = cap then some (one (.tl b off (off + l * size))) else none
          | _ => none
      | none => none
    | none => none
  | _, _ => none

/-- 's[:0:0]'. -/
def sliceZ (ty : TypeId) (x : AV) (lo hi : Option AV) (mx : AV) : Option AV :=
  match asOne x, elemOf C ty, lo, hi with
  | some (.slc b off _ _), some _, none, some h => if intOf h = some 0 ∧ intOf mx = some 0 then some (one (.emp b off)) else none
  | _, _, _, _ => none

def byteCells (s : ByteArray) : List BV := s.data.toList.map fun b => .k (.int .u8 b.toNat)

/-- How many elements are appended, and their cells. -/
def srcCells (size : Nat) (h : Hp) (x : AV) : Option (Nat × List BV) :=
  match asOne x with
  | some (.k (.string s)) => if size = 1 then some (s.size, byteCells s) else none
  | some (.k (.slice none n _)) => if n = 0 then some (0, []) else none
  | some (.slc b off len _) => (readCells h b off (len * size)).map fun c => (len, c)
  | _ => none

inductive R where
  | v (x : AV)
  | enter (f : FuncId) (args : List AV)
  deriving Inhabited

def nextOf (v : Next) : Option R :=
  match v with
  | .value v => some (.v (emb v))
  | .enter f args => some (.enter f (args.toList.map emb))
  | _ => none

/-- An operation all of whose operands are closed: the model itself. -/
def allClosed (t : Tmps) : List Operand → Bool
  | [] => true
  | x :: l => (closed (opd t x)).isSome && allClosed t l
def valOf (t : Tmps) (x : Operand) : Value := (closed (opd t x)).getD (.tuple #[])
def closedOp (t : Tmps) (o : Oper) : Option R :=
  if allClosed t o.op.operands.toList then
    match pureOf C.P (execOp (valOf t) o) with
    | some v => nextOf v
    | none => none
  else none

end Go.Proofs.YtlhaaokldjdnnaaGreatDoor.Ev
namespace Go.Proofs.YtlhaaokldjdnnaaGreatDoor.Ev
set_option linter.unusedVariables false
set_option linter.unusedSimpArgs false

/-- Where an abstract block is: the real block, how far its cells lie from that block's first, and how many elements more have room than the abstract capacity says. -/
structure Loc where
  r : Nat
  s : Nat
  d : Nat
abbrev Env := Nat → Option Loc

def IsCaps (E : Env) : List (Nat × Nat) → List Value → Prop
  | [], [] => True
  | (b, off) :: l, v :: vs => (∃ x, E b = some x ∧ v = .pointer (some ⟨x.r, x.s + off, none⟩)) ∧ IsCaps E l vs
  | _, _ => False
def IsB (E : Env) : BV → Value → Prop
  | .k x, v => v = x
  | .ptr b off, v => ∃ l, E b = some l ∧ v = .pointer (some ⟨l.r, l.s + off, none⟩)
  | .gp g off, v => v = .pointer (some ⟨g, off, none⟩)
  | .slc b off n c, v => ∃ l, E b = some l ∧ v = .slice (some ⟨l.r, l.s + off, none⟩) n (c + l.d)
  | .mp b, v => ∃ l, E b = some l ∧ v = .map (some l.r)
  | .emp b off, v => ∃ l, E b = some l ∧ v = .slice (some ⟨l.r, l.s + off, none⟩) 0 0
  | .tl b off off1, v => ∃ l, E b = some l ∧ v = .slice (some ⟨l.r, l.s + (if l.d = 0 then off else off1), none⟩) 0 l.d
  | .fn f caps, v => ∃ ps, IsCaps E caps ps ∧ v = .func (.func f) #[] ps.toArray
def IsL (E : Env) : List BV → List Value → Prop
  | [], [] => True
  | x :: l, v :: vs => IsB E x v ∧ IsL E l vs
  | _, _ => False
def IsC (E : Env) (c : Cmp) (v : Value) : Prop :=
  match c.isAgg, c.cells with
  | true, l => ∃ vs, IsL E l vs ∧ v = .agg vs.toArray
  | false, [x] => IsB E x v
  | _, _ => False
def IsCs (E : Env) : List Cmp → List Value → Prop
  | [], [] => True
  | x :: l, v :: vs => IsC E x v ∧ IsCs E l vs
  | _, _ => False
def IsA (E : Env) : AV → Value → Prop
  | .val c, v => IsC E c v
  | .tup l, v => ∃ vs, IsCs E l vs ∧ v = .tuple vs.toArray

def Sub (E E' : Env) : Prop := ∀ b l, E b = some l → E' b = some l
theorem Sub.refl (E : Env) : Sub E E := fun _ _ h => h
theorem Sub.trans {E E1 E2 : Env} (h : Sub E E1) (k : Sub E1 E2) : Sub E E2 := fun b l e => k b l (h b l e)

section
variable {E E' : Env} (hs : Sub E E')
include hs
theorem IsCaps.mono : ∀ {l : List (Nat × Nat)} {vs : List Value}, IsCaps E l vs → IsCaps E' l vs
  | [], [], _ => trivial
  | (b, off) :: l, v :: vs, h => ⟨let ⟨x, e, hv⟩ := h.1; ⟨x, hs _ _ e, hv⟩, IsCaps.mono h.2⟩
  | [], _ :: _, h => h.elim
  | _ :: _, [], h => h.elim
theorem IsB.mono {x : BV} {v : Value} (h : IsB E x v) : IsB E' x v := by
  cases x with
  | k x => exact h
  | ptr b off => obtain ⟨l, e, hv⟩ := h; exact ⟨l, hs _ _ e, hv⟩
  | gp g off => exact h
  | slc b off n c => obtain ⟨l, e, hv⟩ := h; exact ⟨l, hs _ _ e, hv⟩
  | mp b => obtain ⟨l, e, hv⟩ := h; exact ⟨l, hs _ _ e, hv⟩
  | emp b off => obtain ⟨l, e, hv⟩ := h; exact ⟨l, hs _ _ e, hv⟩
  | tl b off off1 => obtain ⟨l, e, hv⟩ := h; exact ⟨l, hs _ _ e, hv⟩
  | fn f caps => obtain ⟨ps, e, hv⟩ := h; exact ⟨ps, e.mono hs, hv⟩
theorem IsL.mono : ∀ {l : List BV} {vs : List Value}, IsL E l vs → IsL E' l vs
  | [], [], _ => trivial
  | x :: l, v :: vs, h => ⟨h.1.mono hs, IsL.mono h.2⟩
  | [], _ :: _, h => h.elim
  | _ :: _, [], h => h.elim
theorem IsC.mono {c : Cmp} {v : Value} (h : IsC E c v) : IsC E' c v := by
  obtain ⟨g, l⟩ := c
  cases g with
  | true => obtain ⟨vs, hv, e⟩ := h; exact ⟨vs, hv.mono hs, e⟩
  | false =>
    match l, h with
    | [x], h => exact IsB.mono hs h
    | [], h => exact h.elim
    | _ :: _ :: _, h => exact h.elim
theorem IsCs.mono : ∀ {l : List Cmp} {vs : List Value}, IsCs E l vs → IsCs E' l vs
  | [], [], _ => trivial
  | x :: l, v :: vs, h => ⟨h.1.mono hs, IsCs.mono h.2⟩
  | [], _ :: _, h => h.elim
  | _ :: _, [], h => h.elim
theorem IsA.mono {x : AV} {v : Value} (h : IsA E x v) : IsA E' x v := by
  cases x with
  | val c => exact IsC.mono hs h
  | tup l => obtain ⟨vs, hv, e⟩ := h; exact ⟨vs, hv.mono hs, e⟩
end

/-- A cell's value is one. -/
theorem IsCaps.one {E : Env} : ∀ {l : List (Nat × Nat)} {vs us : List Value}, IsCaps E l vs → IsCaps E l us → vs = us
  | [], [], [], _, _ => rfl
  | (b, off) :: l, v :: vs, u :: us, h, k => by
    obtain ⟨⟨x, e, rfl⟩, h2⟩ := h
    obtain ⟨⟨y, e2, rfl⟩, k2⟩ := k
    obtain rfl : x = y := by rw [e] at e2; exact Option.some.inj e2
    rw [IsCaps.one h2 k2]
  | [], _ :: _, _, h, _ => h.elim
  | [], [], _ :: _, _, k => k.elim
  | _ :: _, [], _, h, _ => h.elim
  | _ :: _, _ :: _, [], _, k => k.elim
theorem IsB.one {E : Env} {x : BV} {v u : Value} (h : IsB E x v) (k : IsB E x u) : v = u := by
  cases x with
  | k x => exact Eq.trans h (Eq.symm k)
  | gp g off => exact Eq.trans h (Eq.symm k)
  | ptr b off =>
    obtain ⟨l, e, rfl⟩ := h
    obtain ⟨l', e', rfl⟩ := k
    obtain rfl : l = l' := by rw [e] at e'; exact Option.some.inj e'
    rfl
  | slc b off n c =>
    obtain ⟨l, e, rfl⟩ := h
    obtain ⟨l', e', rfl⟩ := k
    obtain rfl : l = l' := by rw [e] at e'; exact Option.some.inj e'
    rfl
  | tl b off off1 =>
    obtain ⟨l, e, rfl⟩ := h
    obtain ⟨l', e', rfl⟩ := k
    obtain rfl : l = l' := by rw [e] at e'; exact Option.some.inj e'
    rfl
  | emp b off =>
    obtain ⟨l, e, rfl⟩ := h
    obtain ⟨l', e', rfl⟩ := k
    obtain rfl : l = l' := by rw [e] at e'; exact Option.some.inj e'
    rfl
  | mp b =>
    obtain ⟨l, e, rfl⟩ := h
    obtain ⟨l', e', rfl⟩ := k
    obtain rfl : l = l' := by rw [e] at e'; exact Option.some.inj e'
    rfl
  | fn f caps =>
    obtain ⟨ps, e, rfl⟩ := h
    obtain ⟨qs, e', rfl⟩ := k
    rw [e.one e']

def IsEs (E : Env) : List (Value × Cmp × Nat) → List MapEntry → Prop
  | [], [] => True
  | (k, c, n) :: l, x :: xs => (x.key = k ∧ IsC E c x.val ∧ x.born = n) ∧ IsEs E l xs
  | _, _ => False
theorem IsEs.mono {E E' : Env} (hs : Sub E E') : ∀ {l : List (Value × Cmp × Nat)} {xs : List MapEntry}, IsEs E l xs → IsEs E' l xs
  | [], [], _ => trivial
  | (k, c, n) :: l, x :: xs, h => ⟨⟨h.1.1, h.1.2.1.mono hs, h.1.2.2⟩, IsEs.mono hs h.2⟩
  | [], _ :: _, h => h.elim
  | _ :: _, [], h => h.elim
/-- What a block says of the real one. -/
def BlkIs (E : Env) (l : Loc) (w : World) : Blk → Prop
  | .cells c sz => ∃ C t fr, w.heap[l.r]? = some (.cells C t fr) ∧ (∀ j x, c[j]? = some x → ∃ v, C[l.s + j]? = some v ∧ IsB E x v) ∧
      (∀ j, j < c.length + l.d * st sz → ¬ (fr.1 ≤ l.s + j ∧ l.s + j < fr.2)) ∧ ((st sz = 0 → l.d = 0) ∧ ∀ e, sz / mark = e + 1 → t = e ∧ (st sz = 0 → l.s = 0 ∧ C.size = c.length)) ∧ l.s + c.length + l.d * st sz ≤ C.size
  | .map es clock => ∃ xs, w.heap[l.r]? = some (.map xs.toArray clock) ∧ IsEs E es xs
  | .iter s pos => w.heap[l.r]? = some (.stringIter s pos) ∧ l.s = 0

/-- What an abstract memory says of a world. -/
structure Rep (C : Cfg) (N0 : Nat) (E : Env) (h : Hp) (w : World) : Prop where
  live : ∀ b x, h.get b = some x → ∃ l, E b = some l ∧ BlkIs E l w x
  inj : ∀ b b' x x' l l', h.get b = some x → h.get b' = some x' → E b = some l → E b' = some l' → l.r = l'.r → b = b'
  below : ∀ b l, E b = some l → b < h.next
  base : ∀ b x l, h.get b = some x → E b = some l → N0 ≤ l.r
  tab : ∀ g i v, C.table g i = some v → g < N0 ∧ w.cell? ⟨g, i, none⟩ = some v
  room : N0 ≤ w.heap.size

/-- What a step may do. -/
structure Step (C : Cfg) (N0 : Nat) (E : Env) (h : Hp) (w : World) (E' : Env) (h' : Hp) (w' : World) : Prop where
  rep : Rep C N0 E' h' w'
  ext : ∀ b, b < h.next → E' b = E b
  next : h.next ≤ h'.next
  keep : ∀ k, k < w.heap.size → (∀ b x l, h.get b = some x → E b = some l → l.r ≠ k) → w'.heap[k]? = w.heap[k]?
  own : ∀ b x l, h'.get b = some x → E' b = some l → w.heap.size ≤ l.r ∨ ∃ b0 x0 l0, h.get b0 = some x0 ∧ E b0 = some l0 ∧ l0.r = l.r
  size : w.heap.size ≤ w'.heap.size
  os : w'.os = w.os
  tape : w'.tape = w.tape
  output : w'.output = w.output

variable {C : Cfg} {N0 : Nat} {E E' E1 : Env} {h h' h1 : Hp} {w w' w1 : World}
theorem Step.sub (s : Step C N0 E h w E' h' w') (r : Rep C N0 E h w) : Sub E E' := fun b l e => by rw [s.ext b (r.below b l e)]; exact e
theorem Step.refl (r : Rep C N0 E h w) : Step C N0 E h w E h w :=
  ⟨r, fun _ _ => rfl, Nat.le_refl _, fun _ _ _ => rfl, fun b x l hb he => .inr ⟨b, x, l, hb, he, rfl⟩, Nat.le_refl _, rfl, rfl, rfl⟩
theorem Step.trans (s : Step C N0 E h w E1 h1 w1) (k : Step C N0 E1 h1 w1 E' h' w') : Step C N0 E h w E' h' w' where
  rep := k.rep
  ext b hb := by rw [k.ext b (Nat.lt_of_lt_of_le hb s.next), s.ext b hb]
  next := Nat.le_trans s.next k.next
  keep i hi hn := by
    rw [k.keep i (Nat.lt_of_lt_of_le hi s.size) fun b x l hb he hl => ?_, s.keep i hi hn]
    rcases s.own b x l hb he with h2 | ⟨b0, x0, l0, hb0, he0, hl0⟩
    · omega
    · exact hn b0 x0 l0 hb0 he0 (hl0.trans hl)
  own b x l hb he := by
    rcases k.own b x l hb he with h2 | ⟨b0, x0, l0, hb0, he0, hl0⟩
    · exact .inl (Nat.le_trans s.size h2)
    · rcases s.own b0 x0 l0 hb0 he0 with h3 | ⟨b1, x1, l1, hb1, he1, hl1⟩
      · exact .inl (by omega)
      · exact .inr ⟨b1, x1, l1, hb1, he1, hl1.trans hl0⟩
  size := Nat.le_trans s.size k.size
  os := k.os.trans s.os
  tape := k.tape.trans s.tape
  output := k.output.trans s.output

/-! ### lists -/
theorem findB_put (b c : Nat) (y : Blk) : ∀ l : List (Nat × Blk), findB c (putB b y l) = if c = b then (findB c l).map fun _ => y else findB c l
  | [] => by simp [putB, findB]
  | (a, x) :: l => by
    by_cases hab : a = b
    · subst hab
      by_cases hc : a = c
      · subst hc; simp [putB, findB]
      · have : ¬ c = a := fun e => hc e.symm
        simp [putB, findB, hc, this, findB_put a c y l]
    · by_cases hc : a = c
      · subst hc; simp [putB, findB, hab]
      · simp [putB, findB, hab, hc, findB_put b c y l]
theorem findB_drop (b c : Nat) : ∀ l : List (Nat × Blk), findB c (dropB b l) = if c = b then none else findB c l
  | [] => by simp [dropB, findB]
  | (a, x) :: l => by
    by_cases hab : a = b
    · subst hab
      by_cases hc : a = c
      · subst hc; simp [dropB, findB_drop a a l]
      · have : ¬ c = a := fun e => hc e.symm
        simp [dropB, findB, hc, this, findB_drop a c l]
    · by_cases hc : a = c
      · subst hc; simp [dropB, findB, hab]
      · simp [dropB, findB, hab, hc, findB_drop b c l]
theorem get_put (h : Hp) (b c : Nat) (y : Blk) : (h.put b y).get c = if c = b then (h.get c).map fun _ => y else h.get c := findB_put b c y h.blocks
theorem get_drop (h : Hp) (b c : Nat) : (h.drop b).get c = if c = b then none else h.get c := findB_drop b c h.blocks
theorem get_new (h : Hp) (c : Nat) (y : Blk) : (h.new y).get c = if h.next = c then some y else h.get c := rfl
end Go.Proofs.YtlhaaokldjdnnaaGreatDoor.Ev
namespace Go.Proofs.YtlhaaokldjdnnaaGreatDoor.Ev
open Go.RowKit
set_option linter.unusedVariables false
set_option linter.unusedSimpArgs false
variable {C : Cfg} {N0 : Nat} {E E' E1 : Env} {h h' h1 : Hp} {w w' w1 : World}

theorem BlkIs.same {l : Loc} {y : Blk} (hw : w'.heap[l.r]? = w.heap[l.r]?) (k : BlkIs E l w y) : BlkIs E l w' y := by
  cases y with
  | cells c sz => obtain ⟨X, t, fr, h1, h2⟩ := k; exact ⟨X, t, fr, hw.trans h1, h2⟩
  | map es clock => obtain ⟨xs, h1, h2⟩ := k; exact ⟨xs, hw.trans h1, h2⟩
  | iter s pos => exact ⟨hw.trans k.1, k.2⟩
theorem BlkIs.mono (hs : Sub E E') {l : Loc} {y : Blk} (k : BlkIs E l w y) : BlkIs E' l w y := by
  cases y with
  | cells c sz =>
    obtain ⟨X, t, fr, h1, h2, h3⟩ := k
    exact ⟨X, t, fr, h1, fun j x hj => let ⟨v, hv, hx⟩ := h2 j x hj; ⟨v, hv, hx.mono hs⟩, h3⟩
  | map es clock => obtain ⟨xs, h1, h2⟩ := k; exact ⟨xs, h1, h2.mono hs⟩
  | iter s pos => exact k
theorem BlkIs.lt {l : Loc} {y : Blk} (k : BlkIs E l w y) : l.r < w.heap.size := by
  have : (w.heap[l.r]?).isSome = true := by
    cases y with
    | cells c sz => obtain ⟨X, t, fr, h1, _⟩ := k; rw [h1]; rfl
    | map es clock => obtain ⟨xs, h1, _⟩ := k; rw [h1]; rfl
    | iter s pos => rw [k.1]; rfl
  rcases Nat.lt_or_ge l.r w.heap.size with h | h
  · exact h
  · rw [Array.getElem?_eq_none h] at this; cases this

def extE (E : Env) (b : Nat) (l : Loc) : Env := fun c => if c = b then some l else E c
theorem extE_sub {b : Nat} {l : Loc} (hb : E b = none) : Sub E (extE E b l) := fun c m e => by
  unfold extE
  by_cases hc : c = b
  · subst hc; rw [hb] at e; cases e
  · rw [if_neg hc]; exact e
theorem extE_at (E : Env) (b : Nat) (l : Loc) : extE E b l b = some l := by simp [extE]
theorem extE_ne (E : Env) {b c : Nat} (l : Loc) (h : c ≠ b) : extE E b l c = E c := by simp [extE, h]
theorem Rep.none (r : Rep C N0 E h w) : E h.next = none := by
  cases e : E h.next with
  | none => rfl
  | some l => exact absurd (r.below _ _ e) (Nat.lt_irrefl _)
theorem Rep.lt (r : Rep C N0 E h w) {b : Nat} {x : Blk} (hb : h.get b = some x) : b < h.next := by
  obtain ⟨l, e, _⟩ := r.live b x hb
  exact r.below _ _ e

/-- A new block. -/
theorem step_alloc (r : Rep C N0 E h w) (o : Obj) (y : Blk) (l : Loc) (hl : l.r = w.heap.size) (hy : BlkIs (extE E h.next l) l (w.alloc o) y) :
    Step C N0 E h w (extE E h.next l) (h.new y) (w.alloc o) := by
  have hsub := extE_sub (l := l) r.none
  have hold : ∀ k, k < w.heap.size → (w.alloc o).heap[k]? = w.heap[k]? := fun k hk => by
    show (w.heap.push o)[k]? = _
    rw [Array.getElem?_push_lt hk, Array.getElem?_eq_getElem hk]
  have hlive : ∀ b x, (h.new y).get b = some x → (b = h.next ∧ x = y) ∨ (b ≠ h.next ∧ h.get b = some x) := fun b x hb => by
    rw [get_new] at hb
    by_cases hn : h.next = b
    · rw [if_pos hn] at hb
      exact .inl ⟨hn.symm, (Option.some.inj hb).symm⟩
    · rw [if_neg hn] at hb
      exact .inr ⟨fun e => hn e.symm, hb⟩
  have hlow : ∀ b x m, h.get b = some x → E b = some m → m.r < w.heap.size := fun b x m hb e => by
    obtain ⟨m', e', k⟩ := r.live b x hb
    obtain rfl : m = m' := by rw [e] at e'; exact Option.some.inj e'
    exact k.lt
  refine ⟨⟨fun b x hb => ?_, fun b b' x x' m m' hb hb' e e' hr => ?_, fun b m e => ?_, fun b x m hb e => ?_, fun g i v ht => ?_, ?_⟩, fun b hb => ?_, ?_, fun k hk _ => hold k hk, fun b x m hb e => ?_, ?_, rfl, rfl, rfl⟩
  · rcases hlive b x hb with ⟨rfl, rfl⟩ | ⟨hn, hb⟩
    · exact ⟨l, extE_at _ _ _, hy⟩
    · obtain ⟨m, e, k⟩ := r.live b x hb
      exact ⟨m, by rw [extE_ne _ _ hn]; exact e, (k.mono hsub).same (hold _ k.lt)⟩
  · rcases hlive b x hb with ⟨rfl, rfl⟩ | ⟨hn, hc⟩ <;> rcases hlive b' x' hb' with ⟨rfl, rfl⟩ | ⟨hn', hc'⟩
    · rfl
    · rw [extE_at] at e
      rw [extE_ne _ _ hn'] at e'
      cases e
      have := hlow _ _ _ hc' e'
      omega
    · rw [extE_at] at e'
      rw [extE_ne _ _ hn] at e
      cases e'
      have := hlow _ _ _ hc e
      omega
    · rw [extE_ne _ _ hn] at e
      rw [extE_ne _ _ hn'] at e'
      exact r.inj _ _ _ _ _ _ hc hc' e e' hr
  · show b < h.next + 1
    by_cases hn : b = h.next
    · omega
    · rw [extE_ne _ _ hn] at e
      have := r.below _ _ e
      omega
  · rcases hlive b x hb with ⟨rfl, rfl⟩ | ⟨hn, hb⟩
    · rw [extE_at] at e
      cases e
      rw [hl]
      exact r.room
    · rw [extE_ne _ _ hn] at e
      exact r.base _ _ _ hb e
  · obtain ⟨h1, h2⟩ := r.tab g i v ht
    exact ⟨h1, (World.cell?_of_block (hold g (Nat.lt_of_lt_of_le h1 r.room))).trans h2⟩
  · rw [World.size_alloc]
    exact Nat.le_succ_of_le r.room
  · exact extE_ne _ _ (Nat.ne_of_lt hb)
  · exact Nat.le_succ _
  · rcases hlive b x hb with ⟨rfl, rfl⟩ | ⟨hn, hb⟩
    · rw [extE_at] at e
      cases e
      exact .inl (by omega)
    · rw [extE_ne _ _ hn] at e
      exact .inr ⟨b, x, m, hb, e, rfl⟩
  · rw [World.size_alloc]
    exact Nat.le_succ _

/-- A block changed. -/
theorem step_set (r : Rep C N0 E h w) {b : Nat} {x y : Blk} {l : Loc} (hb : h.get b = some x) (he : E b = some l) (hsz : w'.heap.size = w.heap.size)
    (hk : ∀ k, k ≠ l.r → w'.heap[k]? = w.heap[k]?) (hos : w'.os = w.os) (ht : w'.tape = w.tape) (ho : w'.output = w.output) (hy : BlkIs E l w' y) :
    Step C N0 E h w E (h.put b y) w' := by
  have hlive : ∀ c z, (h.put b y).get c = some z → (c = b ∧ z = y) ∨ (c ≠ b ∧ h.get c = some z) := fun c z hc => by
    rw [get_put] at hc
    by_cases hn : c = b
    · subst hn
      rw [if_pos rfl, hb] at hc
      exact .inl ⟨rfl, (Option.some.inj hc).symm⟩
    · rw [if_neg hn] at hc
      exact .inr ⟨hn, hc⟩
  have hget : ∀ c z, (h.put b y).get c = some z → ∃ z', h.get c = some z' := fun c z hc => by
    rcases hlive c z hc with ⟨rfl, _⟩ | ⟨_, hc⟩
    · exact ⟨x, hb⟩
    · exact ⟨z, hc⟩
  refine ⟨⟨fun c z hc => ?_, fun c c' z z' m m' hc hc' e e' hr => ?_, fun c m e => r.below _ _ e, fun c z m hc e => ?_, fun g i v hg => ?_, ?_⟩, fun _ _ => rfl, Nat.le_refl _, fun k hk' hn => ?_, fun c z m hc e => ?_, ?_, hos, ht, ho⟩
  · rcases hlive c z hc with ⟨rfl, rfl⟩ | ⟨hn, hc⟩
    · exact ⟨l, he, hy⟩
    · obtain ⟨m, e, k⟩ := r.live c z hc
      refine ⟨m, e, k.same (hk _ fun e2 => hn (r.inj _ _ _ _ _ _ hc hb e he e2))⟩
  · obtain ⟨u, hu⟩ := hget c z hc
    obtain ⟨u', hu'⟩ := hget c' z' hc'
    exact r.inj _ _ _ _ _ _ hu hu' e e' hr
  · obtain ⟨u, hu⟩ := hget c z hc
    exact r.base _ _ _ hu e
  · obtain ⟨h1, h2⟩ := r.tab g i v hg
    refine ⟨h1, (World.cell?_of_block (hk g fun e => ?_)).trans h2⟩
    have := r.base _ _ _ hb he
    omega
  · rw [hsz]
    exact r.room
  · exact hk k fun e => hn b x l hb he e.symm
  · obtain ⟨u, hu⟩ := hget c z hc
    exact .inr ⟨c, u, m, hu, e, rfl⟩
  · rw [hsz]
    exact Nat.le_refl _

/-- More that nobody names: blocks behind, draws. -/
theorem step_more (r : Rep C N0 E h w) (hb : Below w.heap.size w w') : Step C N0 E h w E h w' := by
  have hold : ∀ k, k < w.heap.size → w'.heap[k]? = w.heap[k]? := fun k hk => hb.block k hk
  refine ⟨⟨fun b x hx => ?_, r.inj, r.below, r.base, fun g i v hg => ?_, Nat.le_trans r.room hb.size⟩, fun _ _ => rfl, Nat.le_refl _, fun k hk _ => hold k hk, fun b x l hx e => .inr ⟨b, x, l, hx, e, rfl⟩, hb.size, hb.os, hb.tape, hb.output⟩
  · obtain ⟨l, e, k⟩ := r.live b x hx
    exact ⟨l, e, k.same (hold _ k.lt)⟩
  · obtain ⟨h1, h2⟩ := r.tab g i v hg
    exact ⟨h1, (World.cell?_of_block (hold g (Nat.lt_of_lt_of_le h1 r.room))).trans h2⟩

/-- Less that is named. -/
theorem step_less (r : Rep C N0 E h w) (hg : ∀ b x, h'.get b = some x → h.get b = some x) (hn : h'.next = h.next) : Step C N0 E h w E h' w :=
  ⟨⟨fun b x hx => r.live b x (hg b x hx), fun b b' x x' l l' hb hb' => r.inj b b' x x' l l' (hg _ _ hb) (hg _ _ hb'), fun b l e => by rw [hn]; exact r.below b l e, fun b x l hb e => r.base b x l (hg _ _ hb) e, r.tab, r.room⟩,
    fun _ _ => rfl, by rw [hn]; exact Nat.le_refl _, fun _ _ _ => rfl, fun b x l hb e => .inr ⟨b, x, l, hg _ _ hb, e, rfl⟩, Nat.le_refl _, rfl, rfl, rfl⟩
theorem step_drop (r : Rep C N0 E h w) (b : Nat) : Step C N0 E h w E (h.drop b) w :=
  step_less r (fun c x hx => by
    rw [get_drop] at hx
    by_cases hc : c = b
    · rw [if_pos hc] at hx; cases hx
    · rw [if_neg hc] at hx; exact hx) rfl

def bare (h : Hp) : Hp := { blocks := [], next := h.next }
def Hp.join (h h1 : Hp) : Hp := { blocks := h1.blocks ++ h.blocks, next := h1.next }
theorem findB_append (b : Nat) : ∀ l m : List (Nat × Blk), findB b (l ++ m) = (findB b l).or (findB b m)
  | [], m => by simp [findB]
  | (c, x) :: l, m => by
    by_cases hc : c = b
    · simp [findB, hc]
    · simp [findB, hc, findB_append b l m]
theorem rep_bare (r : Rep C N0 E h w) : Rep C N0 E (bare h) w :=
  (step_less (h' := bare h) r (fun b x hx => by cases hx) rfl).rep
/-- A step that sees nothing of what there is leaves it alone. -/
theorem step_join (r : Rep C N0 E h w) (s : Step C N0 E (bare h) w E' h1 w') : Step C N0 E h w E' (h.join h1) w' := by
  have hsub : Sub E E' := s.sub (rep_bare r)
  have hold : ∀ k, k < w.heap.size → w'.heap[k]? = w.heap[k]? := fun k hk => s.keep k hk fun b x l hb => by cases hb
  have hget : ∀ b x, (h.join h1).get b = some x → h1.get b = some x ∨ (h1.get b = none ∧ h.get b = some x) := fun b x hb => by
    have : (findB b (h1.blocks ++ h.blocks)) = some x := hb
    rw [findB_append] at this
    cases e : findB b h1.blocks with
    | some y => rw [e] at this; exact .inl (e.trans this)
    | none => rw [e] at this; exact .inr ⟨e, this⟩
  have hfresh : ∀ b x l, h1.get b = some x → E' b = some l → w.heap.size ≤ l.r := fun b x l hb e => by
    rcases s.own b x l hb e with h | ⟨b0, x0, l0, hb0, _⟩
    · exact h
    · cases hb0
  have hlow : ∀ b x l, h.get b = some x → E' b = some l → E b = some l ∧ l.r < w.heap.size := fun b x l hb e => by
    obtain ⟨m, e', k⟩ := r.live b x hb
    have := hsub b m e'
    rw [e] at this
    cases this
    exact ⟨e', k.lt⟩
  refine ⟨⟨fun b x hb => ?_, fun b b' x x' l l' hb hb' e e' hr => ?_, s.rep.below, fun b x l hb e => ?_, s.rep.tab, s.rep.room⟩, s.ext, s.next, fun k hk _ => hold k hk, fun b x l hb e => ?_, s.size, s.os, s.tape, s.output⟩
  · rcases hget b x hb with hb | ⟨_, hb⟩
    · exact s.rep.live b x hb
    · obtain ⟨l, e, k⟩ := r.live b x hb
      exact ⟨l, hsub _ _ e, (k.mono hsub).same (hold _ k.lt)⟩
  · rcases hget b x hb with hb | ⟨_, hb⟩ <;> rcases hget b' x' hb' with hb' | ⟨_, hb'⟩
    · exact s.rep.inj _ _ _ _ _ _ hb hb' e e' hr
    · have := hfresh _ _ _ hb e
      have := (hlow _ _ _ hb' e').2
      omega
    · have := hfresh _ _ _ hb' e'
      have := (hlow _ _ _ hb e).2
      omega
    · exact r.inj _ _ _ _ _ _ hb hb' (hlow _ _ _ hb e).1 (hlow _ _ _ hb' e').1 hr
  · rcases hget b x hb with hb | ⟨_, hb⟩
    · exact s.rep.base _ _ _ hb e
    · exact r.base _ _ _ hb (hlow _ _ _ hb e).1
  · rcases hget b x hb with hb | ⟨_, hb⟩
    · exact .inl (hfresh _ _ _ hb e)
    · exact .inr ⟨b, x, l, hb, (hlow _ _ _ hb e).1, rfl⟩
/-- A step that sees nothing of what there is, and of which nothing is kept. -/
theorem step_forget (r : Rep C N0 E h w) (s : Step C N0 E (bare h) w E' h1 w') : Step C N0 E h w E h w' := by
  have hold : ∀ k, k < w.heap.size → w'.heap[k]? = w.heap[k]? := fun k hk => s.keep k hk fun b x l hb => by cases hb
  refine step_more r ⟨s.os, s.tape, s.output, s.size, fun k hk => hold k hk⟩
end Go.Proofs.YtlhaaokldjdnnaaGreatDoor.Ev
namespace Go.Proofs.YtlhaaokldjdnnaaGreatDoor.Ev
open Go.RowKit
set_option linter.unusedVariables false
set_option linter.unusedSimpArgs false
variable {C : Cfg} {N0 : Nat} {E E' E1 : Env} {h h' h1 : Hp} {w w' w1 : World}

theorem pureOf_run {α : Type} {P : Program} : ∀ {s : Sem α} {a : α}, pureOf P s = some a → ∀ w, s.run P w = .ok a w
  | .pure b, a, h, w => by simp only [pureOf, Option.some.injEq] at h; subst h; rfl
  | .program k, a, h, w => by
    simp only [pureOf] at h
    exact pureOf_run (s := k P) h w
  | .mark m k, a, h, w => by
    simp only [pureOf] at h
    exact pureOf_run (s := k) h w
  | .choose q k, a, h, w => by
    simp only [pureOf] at h
    by_cases hq : q.forced
    · rw [if_pos hq] at h
      have := pureOf_run (s := k 0) h w
      simp only [Sem.run, hq, if_true]
      exact this
    · rw [if_neg hq] at h; cases h
  | .load m a k, _, h, _ => by cases h
  | .store m a v k, _, h, _ => by cases h
  | .new o k, _, h, _ => by cases h
  | .shape r k, _, h, _ => by cases h
  | .freeze a n k, _, h, _ => by cases h
  | .frozen a k, _, h, _ => by cases h
  | .getObj r k, _, h, _ => by cases h
  | .setObj r o k, _, h, _ => by cases h
  | .sys c k, _, h, _ => by cases h
  | .halt x, _, h, _ => by cases h

theorem isL_k (E : Env) : ∀ l : List Value, IsL E (l.map .k) l
  | [] => trivial
  | x :: l => ⟨rfl, isL_k E l⟩
theorem isC_emb (E : Env) (v : Value) : IsC E (embC v) v := by
  cases v <;> first | exact rfl | exact ⟨_, isL_k E _, by simp⟩
theorem isCs_emb (E : Env) : ∀ l : List Value, IsCs E (l.map embC) l
  | [] => trivial
  | x :: l => ⟨isC_emb E x, isCs_emb E l⟩
theorem isA_emb (E : Env) (v : Value) : IsA E (emb v) v := by
  cases v with
  | tuple vs =>
    unfold emb
    by_cases h0 : vs.size = 0
    · have : vs = #[] := Array.eq_empty_of_size_eq_zero h0
      subst this
      exact rfl
    · simp only [h0, if_false]
      exact ⟨vs.toList, isCs_emb E _, by simp⟩
  | agg cs => exact isC_emb E (.agg cs)
  | _ => exact rfl
theorem isA_plain (E : Env) (v : Value) : IsA E (plain v) v := rfl
theorem isA_one {E : Env} {x : BV} {v : Value} (h : IsB E x v) : IsA E (one x) v := h
theorem closedL_is : ∀ {l : List BV} {r vs : List Value}, closedL l = some r → IsL E l vs → vs = r
  | [], r, [], h, _ => by simp only [closedL, Option.some.injEq] at h; exact h
  | .k x :: l, r, v :: vs, h, hi => by
    simp only [closedL] at h
    cases e : closedL l with
    | none => rw [e] at h; cases h
    | some r' =>
      rw [e] at h
      cases h
      obtain ⟨h1, h2⟩ := hi
      rw [closedL_is e h2, show v = x from h1]
  | [], _, _ :: _, _, hi => hi.elim
  | _ :: _, _, [], _, hi => hi.elim
  | .ptr .. :: _, _, _ :: _, h, _ => by cases h
  | .gp .. :: _, _, _ :: _, h, _ => by cases h
  | .slc .. :: _, _, _ :: _, h, _ => by cases h
  | .mp .. :: _, _, _ :: _, h, _ => by cases h
  | .emp .. :: _, _, _ :: _, h, _ => by cases h
  | .tl .. :: _, _, _ :: _, h, _ => by cases h
  | .fn .. :: _, _, _ :: _, h, _ => by cases h
theorem closedC_is {c : Cmp} {v u : Value} (h : closedC c = some v) (hi : IsC E c u) : u = v := by
  obtain ⟨g, l⟩ := c
  cases g with
  | true =>
    simp only [closedC] at h
    cases e : closedL l with
    | none => rw [e] at h; cases h
    | some r =>
      rw [e] at h
      cases h
      obtain ⟨vs, hv, rfl⟩ := hi
      rw [closedL_is e hv]
  | false =>
    match l, h, hi with
    | [.k x], h, hi => simp only [closedC, Option.some.injEq] at h; exact Eq.trans hi h
    | [], h, _ => cases h
    | [.ptr ..], h, _ => cases h
    | [.gp ..], h, _ => cases h
    | [.slc ..], h, _ => cases h
    | [.mp ..], h, _ => cases h
    | [.emp ..], h, _ => cases h
    | [.tl ..], h, _ => cases h
    | [.fn ..], h, _ => cases h
    | _ :: _ :: _, _, hi => exact hi.elim
theorem closedCs_is : ∀ {l : List Cmp} {r vs : List Value}, closedCs l = some r → IsCs E l vs → vs = r
  | [], r, [], h, _ => by simp only [closedCs, Option.some.injEq] at h; exact h
  | c :: l, r, v :: vs, h, hi => by
    simp only [closedCs] at h
    cases e : closedC c with
    | none => rw [e] at h; cases h
    | some x =>
      cases e2 : closedCs l with
      | none => rw [e, e2] at h; cases h
      | some r' =>
        rw [e, e2] at h
        cases h
        rw [closedC_is e hi.1, closedCs_is e2 hi.2]
  | [], _, _ :: _, _, hi => hi.elim
  | _ :: _, _, [], _, hi => hi.elim
theorem closed_is {x : AV} {v u : Value} (h : closed x = some v) (hi : IsA E x u) : u = v := by
  cases x with
  | val c => exact closedC_is h hi
  | tup l =>
    simp only [closed] at h
    cases e : closedCs l with
    | none => rw [e] at h; cases h
    | some r =>
      rw [e] at h
      cases h
      obtain ⟨vs, hv, rfl⟩ := hi
      rw [closedCs_is e hv]

/-- Slots. -/
structure TRel (E : Env) (t : Tmps) (a : Act) : Prop where
  len : ∀ i, hasT t i = decide (i < a.tmps.size)
  at_ : ∀ i, IsA E (getT t i) (a.tmps.getD i undef)
theorem TRel.mono (hs : Sub E E') {t : Tmps} {a : Act} (h : TRel E t a) : TRel E' t a := ⟨h.len, fun i => (h.at_ i).mono hs⟩
theorem TRel.opd {t : Tmps} {a : Act} (h : TRel E t a) (x : Operand) : IsA E (opd t x) (a.eval x) := by
  cases x with
  | tmp i => exact h.at_ i
  | const v => exact isA_emb E v
  | global g => exact rfl
  | func f => exact rfl
theorem way (i : Nat) : (i = 0 ∧ Nat.beq i 0 = true) ∨ (Nat.beq i 0 = false ∧ Nat.beq (Nat.mod i 2) 1 = true ∧ i = 2 * Nat.div i 2 + 1) ∨ (Nat.beq i 0 = false ∧ Nat.beq (Nat.mod i 2) 1 = false ∧ i = 2 * Nat.pred (Nat.div i 2) + 2) := by
  have h1 : Nat.mod i 2 = i % 2 := rfl
  have h2 : Nat.div i 2 = i / 2 := rfl
  have h3 : ∀ k, Nat.pred k = k - 1 := fun _ => rfl
  rw [h1, h2, h3]
  by_cases h0 : i = 0
  · exact .inl ⟨h0, by rw [h0]; rfl⟩
  · have hb : Nat.beq i 0 = false := by
      cases e : Nat.beq i 0
      · rfl
      · exact absurd (Nat.eq_of_beq_eq_true e) h0
    rcases Nat.mod_two_eq_zero_or_one i with h | h
    · exact .inr (.inr ⟨hb, by rw [h]; rfl, by omega⟩)
    · exact .inr (.inl ⟨hb, by rw [h]; rfl, by omega⟩)
theorem getT_setT : ∀ (t : Tmps) (d i : Nat) (v : AV), getT (setT t d v) i = if i = d ∧ hasT t d = true then v else getT t i
  | .e, d, i, v => by simp [setT, getT, hasT]
  | .n l x r, d, i, v => by
    have ihl := getT_setT l (Nat.div d 2) (Nat.div i 2) v
    have ihr := getT_setT r (Nat.pred (Nat.div d 2)) (Nat.pred (Nat.div i 2)) v
    rcases way d with ⟨hd, hd0⟩ | ⟨hd0, hd1, hd⟩ | ⟨hd0, hd1, hd⟩
    · have e1 : setT (.n l x r) d v = .n l v r := by simp only [setT, hd0, cond_true]
      have e2 : hasT (.n l x r) d = true := by simp only [hasT, hd0, cond_true]
      rw [e1, e2]
      rcases way i with ⟨hi, hi0⟩ | ⟨hi0, hi1, hi⟩ | ⟨hi0, hi1, hi⟩
      · rw [if_pos ⟨by omega, rfl⟩]
        simp only [getT, hi0, cond_true]
      · rw [if_neg (by omega)]
        simp only [getT, hi0, hi1, cond_true, cond_false]
      · rw [if_neg (by omega)]
        simp only [getT, hi0, hi1, cond_true, cond_false]
    · have e1 : setT (.n l x r) d v = .n (setT l (Nat.div d 2) v) x r := by simp only [setT, hd0, hd1, cond_true, cond_false]
      have e2 : hasT (.n l x r) d = hasT l (Nat.div d 2) := by simp only [hasT, hd0, hd1, cond_true, cond_false]
      rw [e1, e2]
      rcases way i with ⟨hi, hi0⟩ | ⟨hi0, hi1, hi⟩ | ⟨hi0, hi1, hi⟩
      · rw [if_neg (by omega)]
        simp only [getT, hi0, cond_true]
      · simp only [getT, hi0, hi1, cond_true, cond_false]
        rw [ihl]
        have : (Nat.div i 2 = Nat.div d 2) = (i = d) := propext ⟨fun h => by omega, fun h => by rw [h]⟩
        simp only [this]
      · rw [if_neg (by omega)]
        simp only [getT, hi0, hi1, cond_true, cond_false]
    · have e1 : setT (.n l x r) d v = .n l x (setT r (Nat.pred (Nat.div d 2)) v) := by simp only [setT, hd0, hd1, cond_true, cond_false]
      have e2 : hasT (.n l x r) d = hasT r (Nat.pred (Nat.div d 2)) := by simp only [hasT, hd0, hd1, cond_true, cond_false]
      rw [e1, e2]
      rcases way i with ⟨hi, hi0⟩ | ⟨hi0, hi1, hi⟩ | ⟨hi0, hi1, hi⟩
      · rw [if_neg (by omega)]
        simp only [getT, hi0, cond_true]
      · rw [if_neg (by omega)]
        simp only [getT, hi0, hi1, cond_true, cond_false]
      · simp only [getT, hi0, hi1, cond_true, cond_false]
        rw [ihr]
        have : (Nat.pred (Nat.div i 2) = Nat.pred (Nat.div d 2)) = (i = d) := propext ⟨fun h => by omega, fun h => by rw [h]⟩
        simp only [this]
theorem hasT_setT : ∀ (t : Tmps) (d i : Nat) (v : AV), hasT (setT t d v) i = hasT t i
  | .e, d, i, v => rfl
  | .n l x r, d, i, v => by
    have ihl := hasT_setT l (Nat.div d 2) (Nat.div i 2) v
    have ihr := hasT_setT r (Nat.pred (Nat.div d 2)) (Nat.pred (Nat.div i 2)) v
    rcases way d with ⟨hd, hd0⟩ | ⟨hd0, hd1, hd⟩ | ⟨hd0, hd1, hd⟩
    · simp only [setT, hasT, hd0, cond_true]
    · have e1 : setT (.n l x r) d v = .n (setT l (Nat.div d 2) v) x r := by simp only [setT, hd0, hd1, cond_true, cond_false]
      rw [e1]
      simp only [hasT]
      rw [hasT_setT l]
    · have e1 : setT (.n l x r) d v = .n l x (setT r (Nat.pred (Nat.div d 2)) v) := by simp only [setT, hd0, hd1, cond_true, cond_false]
      rw [e1]
      simp only [hasT]
      rw [hasT_setT r]
theorem halves_at : ∀ (l : List AV) (k : Nat), (halves l).1[k]? = l[2 * k]? ∧ (halves l).2[k]? = l[2 * k + 1]?
  | [], k => by simp [halves]
  | x :: l, k => by
    refine ⟨?_, ?_⟩
    · cases k with
      | zero => simp [halves]
      | succ k =>
        simp only [halves, List.getElem?_cons_succ]
        rw [(halves_at l k).2, show 2 * (k + 1) = 2 * k + 1 + 1 by omega, List.getElem?_cons_succ]
    · simp only [halves]
      rw [(halves_at l k).1, List.getElem?_cons_succ]
theorem halves_len : ∀ l : List AV, (halves l).1.length ≤ l.length ∧ (halves l).2.length ≤ l.length
  | [] => ⟨Nat.le_refl _, Nat.le_refl _⟩
  | x :: l => by
    have := halves_len l
    simp only [halves, List.length_cons]
    omega
theorem mkT_at : ∀ (n : Nat) (l : List AV) (i : Nat), l.length ≤ n → getT (mkT n l) i = (l[i]?).getD (plain (.tuple #[])) ∧ hasT (mkT n l) i = (l[i]?).isSome
  | 0, [], i, _ => by simp [mkT, getT, hasT]
  | n + 1, [], i, _ => by simp [mkT, getT, hasT]
  | n + 1, x :: l, i, h => by
    have hh := halves_len l
    simp only [List.length_cons] at h
    have ihl := mkT_at n (halves l).1 (Nat.div i 2) (by omega)
    have ihr := mkT_at n (halves l).2 (Nat.pred (Nat.div i 2)) (by omega)
    rw [(halves_at l _).1] at ihl
    rw [(halves_at l _).2] at ihr
    rcases way i with ⟨hi, hi0⟩ | ⟨hi0, hi1, hi⟩ | ⟨hi0, hi1, hi⟩
    · subst hi
      simp [mkT, getT, hasT]
    · have e : (x :: l)[i]? = l[2 * Nat.div i 2]? := by
        have : (x :: l)[2 * Nat.div i 2 + 1]? = l[2 * Nat.div i 2]? := List.getElem?_cons_succ
        rwa [← hi] at this
      rw [e]
      simp only [mkT, getT, hasT, hi0, hi1, cond_true, cond_false]
      exact ihl
    · have e : (x :: l)[i]? = l[2 * Nat.pred (Nat.div i 2) + 1]? := by
        have : (x :: l)[2 * Nat.pred (Nat.div i 2) + 1 + 1]? = l[2 * Nat.pred (Nat.div i 2) + 1]? := List.getElem?_cons_succ
        rwa [show 2 * Nat.pred (Nat.div i 2) + 1 + 1 = i by omega] at this
      rw [e]
      simp only [mkT, getT, hasT, hi0, hi1, cond_true, cond_false]
      exact ihr
theorem TRel.put {t : Tmps} {a : Act} (h : TRel E t a) {x : AV} {v : Value} (d : Option Nat) (hx : IsA E x v) : TRel E (putT t d x) (a.put d v) := by
  cases d with
  | none => exact h
  | some d =>
    refine ⟨fun i => by show hasT (setT t d x) i = decide (i < (a.tmps.setIfInBounds d v).size); rw [hasT_setT, Array.size_setIfInBounds]; exact h.len i, fun i => ?_⟩
    show IsA E (getT (setT t d x) i) ((a.tmps.setIfInBounds d v).getD i undef)
    rw [getT_setT]
    have hl := h.len d
    by_cases hi : i = d ∧ hasT t d = true
    · obtain ⟨rfl, hlt⟩ := hi
      rw [if_pos ⟨rfl, hlt⟩]
      have : (a.tmps.setIfInBounds i v).getD i undef = v := by
        have hl2 : i < a.tmps.size := by rw [hlt] at hl; exact of_decide_eq_true hl.symm
        simp [Array.getD_eq_getD_getElem?, hl2]
      rw [this]
      exact hx
    · rw [if_neg hi]
      have : (a.tmps.setIfInBounds d v).getD i undef = a.tmps.getD i undef := by
        by_cases hid : d = i
        · subst hid
          have hlt : ¬ d < a.tmps.size := fun e => hi ⟨rfl, by rw [hl]; exact decide_eq_true e⟩
          rw [Array.setIfInBounds_eq_of_size_le (by omega)]
        · simp [Array.getD_eq_getD_getElem?, hid]
      rw [this]
      exact h.at_ i

theorem allClosed_mem {t : Tmps} : ∀ {l : List Operand}, allClosed t l = true → ∀ x ∈ l, (closed (opd t x)).isSome = true
  | [], _, x, hx => absurd hx List.not_mem_nil
  | y :: l, h, x, hx => by
    simp only [allClosed, Bool.and_eq_true] at h
    rcases List.mem_cons.1 hx with rfl | hx
    · exact h.1
    · exact allClosed_mem h.2 x hx
theorem valOf_eval {t : Tmps} {a : Act} (h : TRel E t a) {x : Operand} (hc : (closed (opd t x)).isSome = true) : valOf t x = a.eval x := by
  unfold valOf
  cases e : closed (opd t x) with
  | none => rw [e] at hc; cases hc
  | some v => exact (closed_is e (h.opd x)).symm
/-- What comes of an operation. -/
inductive Comes_ (E : Env) : R → Next → Prop
  | v {x : AV} {u : Value} : IsA E x u → Comes_ E (.v x) (.value u)
  | skip : Comes_ E (.v (plain undef)) .skip
  | enter {f : FuncId} {as : List AV} {us : Array Value} : as.length = us.size → (∀ (i : Nat) (x : AV) (u : Value), as[i]? = some x → us[i]? = some u → IsA E x u) → Comes_ E (.enter f as) (.enter f us)
theorem closedOp_run {t : Tmps} {a : Act} {o : Oper} {r : R} (hr : closedOp C t o = some r) (hs : ∀ cs b, o.op ≠ .select cs b) (h : TRel E t a) (w : World) :
    ∃ n, (execOp a.eval o).run C.P w = .ok n w ∧ Comes_ E r n := by
  unfold closedOp at hr
  by_cases hc : allClosed t o.op.operands.toList = true
  · rw [if_pos hc] at hr
    have he : execOp (valOf t) o = execOp a.eval o := execOp_congr o hs fun x hx => valOf_eval h (allClosed_mem hc x (Array.mem_toList_iff.2 hx))
    rw [he] at hr
    cases hp : pureOf C.P (execOp a.eval o) with
    | none => rw [hp] at hr; cases hr
    | some n =>
      rw [hp] at hr
      refine ⟨n, pureOf_run hp w, ?_⟩
      cases n with
      | value u =>
        simp only [nextOf, Option.some.injEq] at hr
        subst hr
        exact .v (isA_emb E u)
      | enter f us =>
        simp only [nextOf, Option.some.injEq] at hr
        subst hr
        refine .enter (by simp) fun i x u hx hu => ?_
        rw [List.getElem?_map, Array.getElem?_toList, hu] at hx
        cases hx
        exact isA_emb E u
      | _ => cases hr
  · rw [if_neg hc] at hr; cases hr
end Go.Proofs.YtlhaaokldjdnnaaGreatDoor.Ev
