/-
  Parts, one behind the other: The evaluator's operations. Definitions alone. | The evaluator: regions, code, calls. Definitions alone. | What the evaluator is told from outside: special functions, oracles. Definitions alone.
-/
import Derived.Test.YtlhaaokldjdnnaaGreatDoorEvAll
import GoSem.Dispatch
namespace Go.Proofs.YtlhaaokldjdnnaaGreatDoor.Ev
set_option linter.unusedVariables false
set_option linter.unusedSimpArgs false
variable (C : Cfg)

def opAlloc (elem : TypeId) (h : Hp) : Option (R × Hp) :=
  match zeroOf C elem with
  | some z => some (.v (one (.ptr h.next 0)), h.new (.cells z (if C.marked elem then mark * (elem + 1) else 0)))
  | none => none
def opBox (x : AV) (h : Hp) : Option (R × Hp) :=
  match cellsOf x with
  | some cs => some (.v (one (.ptr h.next 0)), h.new (.cells cs 0))
  | none => none
def opBuild (t : Tmps) (ty : TypeId) (ps : List (Nat × Operand)) (h : Hp) : Option (R × Hp) :=
  match partsOf t ps with
  | some ps => match build C ty ps with
    | some v => some (.v v, h)
    | none => none
  | none => none
def opBuildSlice (t : Tmps) (ty : TypeId) (len : Nat) (ps : List (Nat × Operand)) (h : Hp) : Option (R × Hp) :=
  match partsOf t ps, elemOf C ty with
  | some ps, some (elem, size) => if len = 0 ∧ ps.length = 0 then some (.v (one (.slc h.next 0 0 0)), h.new (.cells [] 0)) else match zeroOf C elem with
    | some zero =>
      if zero.length = size ∧ 0 < size ∧ 0 < len ∧ len * size ≤ 65536 then
        match fillB (fun i => some (i * size, size)) (repl zero len) ps with
        | some cs => some (.v (one (.slc h.next 0 len len)), h.new (.cells cs 0))
        | none => none
      else none
    | none => none
  | _, _ => none
def opNil (x : AV) (h : Hp) : Option (R × Hp) :=
  match asOne x with
  | some (.ptr b off) => some (.v (one (.ptr b off)), h)
  | some (.fn f c) => some (.v (one (.fn f c)), h)
  | some (.k (.func (.func f) a b)) => some (.v (plain (.func (.func f) a b)), h)
  | _ => none
def fieldOff (s : TypeId) (i : Nat) : Option Nat :=
  match C.P.underlying s with
  | some (.struct fields) => match fields[i]? with
    | some f => match szOf C f.type with
      | some n => if n = 0 then none else some f.offset
      | none => none
    | none => none
  | _ => none
def opFieldAddr (s : TypeId) (x : AV) (i : Nat) (h : Hp) : Option (R × Hp) :=
  match asOne x, fieldOff C s i with
  | some (.ptr b off), some o => some (.v (one (.ptr b (off + o))), h)
  | _, _ => none
def arrayOf (t : TypeId) : Option (Nat × Nat) :=
  match C.P.underlying t with
  | some (.array len e) => match szOf C e with
    | some n => some (len, n)
    | none => none
  | _ => none
def opIndexAddr (ty : TypeId) (x ix : AV) (h : Hp) : Option (R × Hp) :=
  match asOne x, intOf ix with
  | some (.slc b off len _), some i => match elemOf C ty with
    | some (_, size) => if 0 ≤ i ∧ i < len then some (.v (one (.ptr b (off + i.toNat * size))), h) else none
    | none => none
  | some (.ptr b off), some i => match arrayOf C ty with
    | some (len, size) => if 0 ≤ i ∧ i < len then some (.v (one (.ptr b (off + i.toNat * size))), h) else none
    | none => none
  | some (.gp b off), some i => match arrayOf C ty with
    | some (len, size) => if 0 ≤ i ∧ i < len then some (.v (one (.gp b (off + i.toNat * size))), h) else none
    | none => none
  | _, _ => none
def opField (ty : TypeId) (x : AV) (i : Nat) (h : Hp) : Option (R × Hp) :=
  match x, C.P.underlying ty with
  | .val ⟨true, cs⟩, some (.struct fields) => match fields[i]? with
    | some f => match aggOf C f.type, szOf C f.type with
      | some g, some n => if f.offset + (if g then n else 1) ≤ cs.length then some (.v (.val ⟨g, (cs.drop f.offset).take (if g then n else 1)⟩), h) else none
      | _, _ => none
    | none => none
  | _, _ => none
def opExtract (x : AV) (i : Nat) (h : Hp) : Option (R × Hp) :=
  match x with
  | .tup l => match l[i]? with
    | some c => some (.v (.val c), h)
    | none => none
  | _ => none
def ptrCaps (t : Tmps) : List Operand → Option (List (Nat × Nat))
  | [] => some []
  | x :: l => match asOne (opd t x), ptrCaps t l with
    | some (.ptr b off), some r => some ((b, off) :: r)
    | _, _ => none
def opMakeFunc (t : Tmps) (f : FuncId) (caps : List Operand) (h : Hp) : Option (R × Hp) :=
  match ptrCaps t caps with
  | some cs => some (.v (one (.fn f cs)), h)
  | none => none
def opMakeSlice (ty : TypeId) (l c : AV) (h : Hp) : Option (R × Hp) :=
  match elemOf C ty, intOf l, intOf c with
  | some (elem, size), some l, some c => match zeroOf C elem, (C.P.info? elem).map (·.bytes) with
    | some zero, some bytes =>
      if 0 ≤ l ∧ l ≤ c ∧ c ≤ 65536 ∧ zero.length = size ∧ 0 < size ∧ bytes ≤ 65536 then
        some (.v (one (.slc h.next 0 l.toNat c.toNat)), h.new (.cells (repl zero c.toNat) 0))
      else none
    | _, _ => none
  | _, _, _ => none
def opMakeMap (h : Hp) : Option (R × Hp) := some (.v (one (.mp h.next)), h.new (.map [] 0))

def findK (d : TypeDesc) (k : Value) : List (Value × Cmp × Nat) → Nat → Option (Option (Nat × Cmp))
  | [], _ => some none
  | (k', v, _) :: l, i => match Instr.sameNow d k k' with
    | some true => some (some (i, v))
    | some false => findK d k l (i + 1)
    | none => none
def plainKind : TypeDesc → Bool
  | .int _ | .string => true
  | _ => false
/-- A map's keys' type, what it is, its values' type. -/
def mapKind (ty : TypeId) : Option (TypeId × TypeDesc × TypeId) :=
  match C.P.underlying ty with
  | some (.map key elem) => match C.P.underlying key with
    | some d => if plainKind d then some (key, d, elem) else none
    | none => none
  | _ => none
def opLookup (ty : TypeId) (m key : AV) (ok : Bool) (h : Hp) : Option (R × Hp) :=
  match mapKind C ty, asOne m, closed key with
  | some (_, d, elem), some (.mp b), some k => match h.get b, pureOf C.P (zeroValue elem) with
    | some (.map es _), some zero => match findK d k es 0 with
      | some (some (_, v)) => some (.v (if ok then .tup [v, ⟨false, [.k (.bool true)]⟩] else .val v), h)
      | some none => some (.v (if ok then .tup [embC zero, ⟨false, [.k (.bool false)]⟩] else .val (embC zero)), h)
      | none => none
    | _, _ => none
  | _, _, _ => none
def opMapUpdate (ty : TypeId) (m key x : AV) (h : Hp) : Option (R × Hp) :=
  match mapKind C ty, asOne m, closed key, x with
  | some (_, d, _), some (.mp b), some k, .val c => match h.get b with
    | some (.map es clock) => match findK d k es 0 with
      | some none => some (.v (plain undef), h.put b (.map (es ++ [(k, c, clock)]) (clock + 1)))
      | _ => none
    | _ => none
  | _, _, _, _ => none
def opDelete (ty : TypeId) (m key : AV) (h : Hp) : Option (R × Hp) :=
  match mapKind C ty, asOne m, closed key with
  | some (_, d, _), some (.mp b), some k => match h.get b with
    | some (.map es clock) => match findK d k es 0 with
      | some (some (i, _)) => some (.v (plain (.tuple #[])), h.put b (.map (es.eraseIdx i) clock))
      | _ => none
    | _ => none
  | _, _, _ => none
def opRange (ty : TypeId) (x : AV) (h : Hp) : Option (R × Hp) :=
  match C.P.underlying ty, asOne x with
  | some .string, some (.k (.string s)) => some (.v (one (.ptr h.next 0)), h.new (.iter s 0))
  | _, _ => none
def opNext (it : AV) (h : Hp) : Option (R × Hp) :=
  match asOne it with
  | some (.ptr b 0) => match h.get b with
    | some (.iter s pos) =>
      if pos < s.size then
        some (.v (emb (.tuple #[.bool true, .int .i64 pos, .int .i32 (Utf8.decode s pos).1])), h.put b (.iter s (pos + (Utf8.decode s pos).2)))
      else some (.v (emb (.tuple #[.bool false])), h)
    | _ => none
  | _ => none
/-- An address against nil. -/
def sameAd (d : Option TypeDesc) (x y : Option BV) : Option Bool :=
  match d, x, y with
  | some (.pointer _), some (.ptr _ _), some (.k (.pointer none)) => some false
  | some (.slice _), some (.slc ..), some (.k (.slice none 0 0)) => some false
  | some (.func ..), some (.fn ..), some (.k .nilFunc) => some false
  | some (.map ..), some (.mp ..), some (.k (.map none)) => some false
  | _, _, _ => none
def opEq (op : BinOp) (ty : TypeId) (x y : AV) (h : Hp) : Option (R × Hp) :=
  match op, sameAd (C.P.underlying ty) (asOne x) (asOne y) with
  | .eql, some r => some (.v (plain (.bool r)), h)
  | .neq, some r => some (.v (plain (.bool !r)), h)
  | _, _ => none
def isBytes (t : TypeId) : Bool :=
  match C.P.underlying t with
  | some (.slice e) => (match C.P.underlying e with | some (.int .u8) => true | _ => false)
  | _ => false
def isText (t : TypeId) : Bool :=
  match C.P.underlying t with
  | some .string => true
  | _ => false
def opConvert (src dst : TypeId) (x : AV) (h : Hp) : Option (R × Hp) :=
  match asOne x with
  | some (.k (.string s)) =>
    if isBytes C dst && isText C src then
      some (.v (one (.slc h.next 0 s.size s.size)), h.new (.cells (byteCells s) 1))
    else none
  | some (.slc b off len _) =>
    if isBytes C src && isText C dst then
      match readCells h b off len with
      | some cs => match bytesIn cs with
        | some bs => some (.v (plain (.string ⟨bs.toArray⟩)), h)
        | none => none
      | none => none
    else none
  | _ => none
def opLen (ty : TypeId) (x : AV) (h : Hp) : Option (R × Hp) :=
  match C.P.underlying ty, asOne x with
  | some (.slice _), some (.slc _ _ n _) => some (.v (plain (.int .i64 n)), h)
  | some (.slice _), some (.tl ..) => some (.v (plain (.int .i64 0)), h)
  | some (.map ..), some (.mp m) => match h.get m with
    | some (.map es _) => some (.v (plain (.int .i64 es.length)), h)
    | _ => none
  | _, _ => none
def isIntD : TypeDesc → Bool
  | .int _ => true
  | _ => false
/-- A new row's 'sz'. -/
def tagOf (elem : TypeId) (size : Nat) : Nat := if C.marked elem then mark * (elem + 1) + size else size
/-- A row's 'sz' that goes on where it is, or elsewhere. -/
def keepTag (elem : TypeId) (size sz : Nat) : Nat := if sz = tagOf C elem size then sz else size
def opAppend (sType xType : TypeId) (s x : AV) (h : Hp) : Option (R × Hp) :=
  match elemOf C sType, srcCells (match elemOf C sType with | some (_, n) => n | none => 0) h x with
  | some (elem, size), some (n, new) => match zeroOf C elem, (C.P.info? elem).map (·.bytes), C.P.underlying xType with
    | some zero, some bytes, some d =>
      if zero.length = size ∧ (0 < size ∧ size < mark) ∧ bytes ≤ 65536 ∧ new.length = n * size ∧ n ≤ 65536 ∧ isIntD d = false ∧ new.all okCell = true then
        match asOne s with
        | some (.k (.slice none 0 0)) =>
          if n = 0 then some (.v s, h) else some (.v (one (.slc h.next 0 n n)), h.new (.cells new (tagOf C elem size)))
        | some (.emp b off) => if n = 0 then none else some (.v (one (.slc h.next 0 n n)), h.new (.cells new (tagOf C elem size)))
        | some (.tl b off z) => match h.get b with
          | some (.cells c sz) => if st sz = size ∧ z = c.length ∧ 0 < n then some (.v (one (.slc h.next 0 n n)), (h.drop b).new (.cells new (keepTag C elem size sz))) else none
          | _ => none
        | some (.slc b off len cap) => match h.get b with
          | some (.cells c sz) =>
            if len + n ≤ cap then
              if off + len * size + new.length ≤ c.length then some (.v (one (.slc b off (len + n) cap)), h.put b (.cells (setCells c (off + len * size) new) sz)) else none
            else if len ≤ 65536 ∧ off + len * size ≤ c.length then
              if st sz = 0 then some (.v (one (.slc h.next 0 (len + n) (len + n))), h.new (.cells ((c.drop off).take (len * size) ++ new) (tagOf C elem size)))
              else if st sz = size ∧ off + cap * size = c.length ∧ len = cap then
                some (.v (one (.slc h.next 0 (len + n) (len + n))), (h.drop b).new (.cells ((c.drop off).take (len * size) ++ new) (keepTag C elem size sz)))
              else none
            else none
          | _ => none
        | _ => none
      else none
    | _, _, _ => none
  | _, _ => none

def hasBody (f : FuncId) : Bool := match C.P.funcs[f]? with | some fn => fn.body.isSome && fn.name != "runtime.NumGoroutine" | none => false
def opBuiltin (t : Tmps) (b : Builtin) (argTypes : List TypeId) (args : List Operand) (h : Hp) : Option (R × Hp) :=
  match b, argTypes, args with
  | .len, [ty], [x] => opLen C ty (opd t x) h
  | .append, [sT, xT], [s, x] => opAppend C sT xT (opd t s) (opd t x) h
  | .delete, [mT, _], [m, k] => opDelete C mT (opd t m) (opd t k) h
  | _, _, _ => none
def opCall (t : Tmps) (c : Call) (o : Oper) (h : Hp) : Option (R × Hp) :=
  match c.callee with
  | .builtin b => match closedOp C t o with
    | some (.v r) => some (.v r, h)
    | _ => opBuiltin C t b c.argTypes.toList c.args.toList h
  | .value f => match asOne (opd t f) with
    | some (.k (.func (.func g) first caps)) =>
      if first.size = 0 ∧ caps.size = 0 then
        if hasBody C g then some (.enter g (c.args.toList.map (opd t)), h)
        else match closedOp C t o with
          | some (.v r) => some (.v r, h)
          | _ => none
      else none
    | some (.fn g caps) =>
      if hasBody C g then some (.enter g (c.args.toList.map (opd t) ++ caps.map fun (b, off) => one (.ptr b off)), h) else none
    | _ => none
  | _ => none

def op (t : Tmps) (o : Oper) (h : Hp) : Option (R × Hp) :=
  match o.op with
  | .move x | .assign x => some (.v (opd t x), h)
  | .pick c a b => match asOne (opd t c) with
    | some (.k (.bool r)) => some (.v (if r then opd t a else opd t b), h)
    | _ => none
  | .alloc elem => opAlloc C elem h
  | .box _ x => opBox (opd t x) h
  | .build ty ps => opBuild C t ty ps.toList h
  | .buildSlice ty len ps => opBuildSlice C t ty len ps.toList h
  | .load ty a => match load C ty (opd t a) h with
    | some v => some (.v v, h)
    | none => none
  | .store ty a x => match store C ty (opd t a) (opd t x) h with
    | some h => some (.v (plain undef), h)
    | none => none
  | .nilCheck x => opNil (opd t x) h
  | .fieldAddr s x i => opFieldAddr C s (opd t x) i h
  | .indexAddr ty x ix => opIndexAddr C ty (opd t x) (opd t ix) h
  | .field ty x i => opField C ty (opd t x) i h
  | .extract x i => opExtract (opd t x) i h
  | .slice ty x lo hi none => match sliceS C ty (opd t x) (lo.map (opd t)) (hi.map (opd t)) h with
    | some v => some (.v v, h)
    | none => match closedOp C t o with
      | some (.v r) => some (.v r, h)
      | _ => none
  | .slice ty x lo hi (some mx) => match sliceZ C ty (opd t x) (lo.map (opd t)) (hi.map (opd t)) (opd t mx) with
    | some v => some (.v v, h)
    | none => match closedOp C t o with
      | some (.v r) => some (.v r, h)
      | _ => none
  | .makeFunc (.func f) first caps => if first.size = 0 then opMakeFunc t f caps.toList h else none
  | .makeSlice ty l c => opMakeSlice C ty (opd t l) (opd t c) h
  | .makeMap _ none => opMakeMap h
  | .lookup ty m key ok => opLookup C ty (opd t m) (opd t key) ok h
  | .mapUpdate ty m key x => opMapUpdate C ty (opd t m) (opd t key) (opd t x) h
  | .range ty x => opRange C ty (opd t x) h
  | .next it true => opNext (opd t it) h
  | .binOp op ty x y _ => match closedOp C t o with
    | some (.v r) => some (.v r, h)
    | _ => opEq C op ty (opd t x) (opd t y) h
  | .convert src dst x => match opConvert C src dst (opd t x) h with
    | some r => some r
    | none => match closedOp C t o with
      | some (.v r) => some (.v r, h)
      | _ => none
  | .call c => opCall C t c o h
  | .unOp .. | .index .. => match closedOp C t o with
    | some (.v r) => some (.v r, h)
    | _ => none
  | _ => none
end Go.Proofs.YtlhaaokldjdnnaaGreatDoor.Ev
namespace Go.Proofs.YtlhaaokldjdnnaaGreatDoor.Ev
set_option linter.unusedVariables false
set_option linter.unusedSimpArgs false
variable (C : Cfg)

inductive X where
  | normal
  | exit (id : Nat)
  | ret
  deriving Inhabited, DecidableEq

def wantedT (ops : Array Oper) (o : Oper) (t : Tmps) : Option Bool :=
  match o.guard with
  | none => some true
  | some (j, want) => match (ops[j]?).bind (·.dst) with
    | some d => match asOne (getT t d) with
      | some (.k (.bool b)) => some (b == want)
      | some (.k (.tuple _)) => some false
      | _ => none
    | none => none

abbrev CallF := FuncId → List AV → Hp → Option (AV × Hp)

def stepOp (call : CallF) (o : Oper) (t : Tmps) (h : Hp) : Option (Tmps × Hp) :=
  match op C t o h with
  | none => none
  | some (.v x, h) => some (putT t o.dst x, h)
  | some (.enter g args, h) => match call g args h with
    | none => none
    | some (r, h) => some (putT t o.dst r, h)

def region (call : CallF) (ops : Array Oper) : List Oper → Tmps → Hp → Option (Tmps × Hp)
  | [], t, h => some (t, h)
  | o :: os, t, h =>
    match wantedT ops o t with
    | none => none
    | some false => region call ops os (putT t o.dst (plain undef)) h
    | some true => match stepOp C call o t h with
      | none => none
      | some (t, h) => region call ops os t h

/-! ### a region that draws its order -/
def stillCall (c : Call) : Bool :=
  match c.callee with
  | .builtin .len | .builtin .min | .builtin .max => true
  | _ => false
def stillKind : Op → Bool
  | .call c => stillCall c
  | .move _ | .assign _ | .pick .. | .build .. | .load .. | .nilCheck _ | .fieldAddr .. | .indexAddr .. | .field .. | .extract .. | .slice .. | .makeFunc .. | .lookup .. | .binOp .. | .unOp .. | .index .. => true
  | _ => false
/-- In which order the evaluator takes the operations: each with 'it may be taken first' or 'it is the only one that may come'; or one of two comes, and both roads end alike. -/
inductive Plan where
  | nil
  | one (i : Nat) (take : Bool) (p : Plan)
  | both (i j : Nat) (p q : Plan)
  deriving Inhabited
def planOk (ops : Array Oper) : Nat → Plan → Array Bool → Bool
  | 0, .nil, listed => (Region.ready .any ops listed).isEmpty
  | n + 1, .one i true pl, listed => (Region.ready .any ops listed).contains i && Region.free .any ops listed i && (match ops[i]? with | some o => stillKind o.op | none => false) && planOk ops n pl (listed.setIfInBounds i true)
  | n + 1, .one i false pl, listed => (Region.ready .any ops listed == [i]) && planOk ops n pl (listed.setIfInBounds i true)
  | n + 1, .both i j pl ql, listed => (Region.ready .any ops listed == [i, j]) && planOk ops n pl (listed.setIfInBounds i true) && planOk ops n ql (listed.setIfInBounds j true)
  | _, _, _ => false
def planFits (ops : Array Oper) (pl : Plan) : Bool := Region.noSelect ops && planOk ops ops.size pl (Array.replicate ops.size false)

def sameV : Value → Value → Bool
  | .bool a, .bool b => a == b
  | .int j a, .int k b => j == k && a == b
  | .string a, .string b => a.data.toList == b.data.toList
  | .pointer none, .pointer none => true
  | .slice none a b, .slice none c d => a == c && b == d
  | .nilFunc, .nilFunc => true
  | .map none, .map none => true
  | .tuple a, .tuple b => a.size == 0 && b.size == 0
  | _, _ => false
def sameB : BV → BV → Bool
  | .k x, .k y => sameV x y
  | .ptr a b, .ptr c d => a == c && b == d
  | .gp a b, .gp c d => a == c && b == d
  | .slc a b c d, .slc a' b' c' d' => a == a' && b == b' && c == c' && d == d'
  | .mp a, .mp b => a == b
  | .emp a b, .emp c d => a == c && b == d
  | .tl a b c, .tl a' b' c' => a == a' && b == b' && c == c'
  | .fn f l, .fn f' l' => f == f' && l == l'
  | _, _ => false
def sameL : List BV → List BV → Bool
  | [], [] => true
  | x :: l, y :: m => sameB x y && sameL l m
  | _, _ => false
def sameE : List (Value × Cmp × Nat) → List (Value × Cmp × Nat) → Bool
  | [], [] => true
  | (k, c, n) :: l, (k', c', n') :: m => sameV k k' && (c.isAgg == c'.isAgg && sameL c.cells c'.cells) && n == n' && sameE l m
  | _, _ => false
def sameBlk : Blk → Blk → Bool
  | .cells c s, .cells c' s' => sameL c c' && s == s'
  | .map es n, .map es' n' => sameE es es' && n == n'
  | _, _ => false
def sameC (c d : Cmp) : Bool := c.isAgg == d.isAgg && sameL c.cells d.cells
def sameCs : List Cmp → List Cmp → Bool
  | [], [] => true
  | x :: l, y :: m => sameC x y && sameCs l m
  | _, _ => false
def sameA : AV → AV → Bool
  | .val c, .val d => sameC c d
  | .tup l, .tup m => sameCs l m
  | _, _ => false
def sameT : Tmps → Tmps → Bool
  | .e, .e => true
  | .n l x r, .n l' x' r' => sameA x x' && sameT l l' && sameT r r'
  | _, _ => false
def sameBs : List (Nat × Blk) → List (Nat × Blk) → Bool
  | [], [] => true
  | (b, x) :: l, (c, y) :: m => b == c && sameBlk x y && sameBs l m
  | _, _ => false
def sameH (h g : Hp) : Bool := h.next == g.next && sameBs h.blocks g.blocks
def keeps (hS h : Hp) : List (Nat × Blk) → Bool
  | [] => true
  | (b, _) :: l => (match hS.get b, h.get b with
    | some x, some y => sameBlk x y
    | none, _ => true
    | _, none => false) && keeps hS h l
def restrict (h : Hp) (ids : List Nat) : Hp := { blocks := h.blocks.filter fun x => ids.contains x.1, next := h.next }

/-- Which blocks an operation reads. -/
def readsOf (t : Tmps) (o : Oper) : List Nat :=
  match o.op with
  | .load _ a => (match asOne (opd t a) with | some (.ptr b _) => [b] | _ => [])
  | .lookup _ m _ _ => (match asOne (opd t m) with | some (.mp b) => [b] | _ => [])
  | .call c => (match c.args.toList with | [x] => (match asOne (opd t x) with | some (.mp b) => [b] | _ => []) | _ => [])
  | _ => []
def collect (ops : Array Oper) (h : Hp) : Plan → Tmps → List Nat → List Nat
  | .nil, _, acc => acc
  | .one i false pl, t, acc => collect ops h pl t acc
  | .both i j pl ql, t, acc => collect ops h ql t (collect ops h pl t acc)
  | .one i true pl, t, acc => match ops[i]? with
    | none => acc
    | some o => match op C t o h with
      | some (.v x, _) => collect ops h pl (putT t o.dst x) (readsOf t o ++ acc)
      | _ => collect ops h pl t acc
/-- One operation of a region that draws its order. -/
def come (call : CallF) (ops : Array Oper) (hS : Hp) (i : Nat) (t : Tmps) (h : Hp) : Option (Tmps × Hp) :=
  match ops[i]? with
  | none => none
  | some o => match wantedT ops o t with
    | none => none
    | some false => some (putT t o.dst (plain undef), h)
    | some true => match stepOp C call o t h with
      | none => none
      | some (t', h') => if keeps hS h' hS.blocks then some (t', h') else none
/-- One that is taken first. -/
def takeT (ops : Array Oper) (hS : Hp) (i : Nat) (t : Tmps) (h : Hp) : Option Tmps :=
  match ops[i]? with
  | none => none
  | some o => match wantedT ops o t with
    | none => none
    | some false => some (putT t o.dst (plain undef))
    | some true => match op C t o { hS with next := h.next } with
      | some (.v x, _) => some (putT t o.dst x)
      | _ => none
def planned (call : CallF) (ops : Array Oper) (hS : Hp) : Plan → Tmps → Hp → Option (Tmps × Hp)
  | .nil, t, h => some (t, h)
  | .one i true pl, t, h => match takeT C ops hS i t h with
    | some t' => planned call ops hS pl t' h
    | none => none
  | .one i false pl, t, h => match come C call ops hS i t h with
    | some (t', h') => planned call ops hS pl t' h'
    | none => none
  | .both i j pl ql, t, h => match come C call ops hS i t h with
    | none => none
    | some (t1, h1) => match planned call ops hS pl t1 h1 with
      | none => none
      | some (t2, h2) => match come C call ops hS j t h with
        | none => none
        | some (t3, h3) => match planned call ops hS ql t3 h3 with
          | none => none
          | some (t4, h4) => if sameT t2 t4 && sameH h2 h4 then some (t2, h2) else none
def regionDraw (call : CallF) (ops : Array Oper) (pl : Plan) (t : Tmps) (h : Hp) : Option (Tmps × Hp) :=
  planned C call ops (restrict h (collect C ops h pl t [])) pl t h

def pad : Nat → List AV → List AV
  | 0, _ => []
  | n + 1, [] => plain undef :: pad n []
  | n + 1, x :: l => x :: pad n l
def resultsOf (t : Tmps) (h : Hp) : List ResultVar → Option (List Cmp)
  | [] => some []
  | .tmp i :: l => match getT t i, resultsOf t h l with
    | .val c, some r => some (c :: r)
    | _, _ => none
  | .cell a ty :: l => match load C ty (getT t a) h, resultsOf t h l with
    | some (.val c), some r => some (c :: r)
    | _, _ => none
def resultOf (fn : Func) (t : Tmps) (h : Hp) : Option AV :=
  match resultsOf C t h fn.results.toList with
  | some [c] => some (.val c)
  | some l => some (if l.isEmpty then plain (.tuple #[]) else .tup l)
  | none => none

/-- What is told from outside: what some functions answer (their arguments closed), how regions that draw their order are taken, and special functions. -/
structure Out where
  orc : FuncId → List AV → Option AV
  plan : FuncId → Nat → Option Plan
  special : CallF → CallF

def allCl : List AV → Bool
  | [] => true
  | x :: l => (closed x).isSome && allCl l
/-- Ids that are named in cells. -/
def idsB : BV → List Nat
  | .ptr b _ | .slc b _ _ _ | .mp b | .emp b _ | .tl b _ _ => [b]
  | .fn _ l => l.map (·.1)
  | _ => []
def idsBlk : Blk → List Nat
  | .cells c _ => c.flatMap idsB
  | .map es _ => es.flatMap fun e => e.2.1.cells.flatMap idsB
  | .iter .. => []
def idsA : AV → List Nat
  | .val c => c.cells.flatMap idsB
  | .tup l => l.flatMap fun c => c.cells.flatMap idsB
/-- What stays of new blocks: those that can be come to. -/
def reach (h : Hp) (from_ : Nat) : Nat → List Nat → List Nat → List Nat
  | 0, _, seen => seen
  | _, [], seen => seen
  | n + 1, b :: todo, seen =>
    if b < from_ || seen.contains b then reach h from_ n todo seen
    else match h.get b with
      | some x => reach h from_ n (idsBlk x ++ todo) (b :: seen)
      | none => reach h from_ n todo seen
def oldIds (from_ : Nat) : List (Nat × Blk) → List Nat
  | [] => []
  | (b, x) :: l => if b < from_ then (idsBlk x).filter (fun c => from_ ≤ c) ++ oldIds from_ l else oldIds from_ l
def tidy (from_ : Nat) (r : AV) (h : Hp) : Hp :=
  if (idsA r).all (· < from_) && (oldIds from_ h.blocks).isEmpty then { blocks := h.blocks.filter fun x => x.1 < from_, next := from_ }
  else
    { h with blocks := h.blocks.filter fun x => x.1 < from_ || (reach h from_ 100000 (idsA r ++ oldIds from_ h.blocks) []).contains x.1 }

variable (V : Out)
mutual
def evCall : Nat → FuncId → List AV → Hp → Option (AV × Hp)
  | 0, _, _, _ => none
  | n + 1, f, args, h =>
    match V.orc f args with
    | some r => some (r, h)
    | none => match V.special (evCall n) f args h with
      | some r => some r
      | none =>
        if allCl args then
          match evBody n f args { blocks := [], next := h.next } with
          | some (r, h1) => if (closed r).isSome then some (r, h) else some (r, { blocks := h1.blocks ++ h.blocks, next := h1.next })
          | none => none
        else evBody n f args h
def evBody : Nat → FuncId → List AV → Hp → Option (AV × Hp)
  | 0, _, _, _ => none
  | n + 1, f, args, h =>
    match C.P.funcs[f]? with
    | none => none
    | some fn => match fn.body with
      | none => none
      | some body => match evCode n f body (mkT fn.ntmps (pad fn.ntmps args)) h with
        | some (.exit _, _, _) => none
        | some (_, t, h1) => match resultOf C fn t h1 with
          | some r => if args.length ≤ fn.ntmps then some (r, tidy h.next r h1) else none
          | none => none
        | none => none
def evCode : Nat → FuncId → Code → Tmps → Hp → Option (X × Tmps × Hp)
  | 0, _, _, _, _ => none
  | n + 1, f, c, t, h =>
    match c with
    | .skip => some (.normal, t, h)
    | .label _ => some (.normal, t, h)
    | .ret => some (.ret, t, h)
    | .exit i => some (.exit i, t, h)
    | .seq a b => match evCode n f a t h with
      | some (.normal, t, h) => evCode n f b t h
      | r => r
    | .cond c a b => match asOne (opd t c) with
      | some (.k (.bool true)) => evCode n f a t h
      | some (.k (.bool false)) => evCode n f b t h
      | _ => none
    | .block i b => match evCode n f b t h with
      | some (.exit j, t, h) => some (if j = i then .normal else .exit j, t, h)
      | r => r
    | .loop b => match evCode n f b t h with
      | some (.normal, t, h) => evCode n f (.loop b) t h
      | r => r
    | .region _ ops false => match region C (evCall n) ops ops.toList t h with
      | some (t, h) => some (.normal, t, h)
      | none => none
    | .region id ops true => match V.plan f id with
      | some pl => match regionDraw C (evCall n) ops pl t h with
        | some (t, h) => some (.normal, t, h)
        | none => none
      | none => none
    | _ => none
end
end Go.Proofs.YtlhaaokldjdnnaaGreatDoor.Ev
namespace Go.Proofs.YtlhaaokldjdnnaaGreatDoor.Ev
set_option linter.unusedVariables false
set_option linter.unusedSimpArgs false

/-- trap.catch at a function that does not panic. -/
def catch_ (C : Cfg) (call : CallF) : CallF := fun _ args h =>
  match args with
  | [x] => match asOne x with
    | some (.fn g caps) => if hasBody C g then match call g (caps.map fun (b, off) => one (.ptr b off)) h with
      | some (_, h') => some (.tup [⟨true, [.k (.int .i64 0), .k (.int .i64 0)]⟩, ⟨false, [.k (.bool false)]⟩], h')
      | none => none
      else none
    | _ => none
  | _ => none
/-- A Builder's own address, laid or held. -/
def copyCheck_ : CallF := fun _ args h =>
  match args with
  | [x] => match asOne x with
    | some (.ptr b off) => match h.get b with
      | some (.cells c s) => match c[off]? with
        | some (.k (.pointer none)) => if s = mark * 289 ∧ off = 0 ∧ c.length = 2 then some (plain (.tuple #[]), h.put b (.cells (setCells c 0 [.ptr b 0]) s)) else none
        | some (.ptr b' off') => if b' = b ∧ off' = off then some (plain (.tuple #[]), h) else none
        | _ => none
      | _ => none
    | _ => none
  | _ => none
/-- A Builder's text. -/
def text_ : CallF := fun _ args h =>
  match args with
  | [x] => match asOne x with
    | some (.ptr b off) => match readCells h b (off + 1) 1 with
      | some [.k (.slice none 0 0)] => some (plain (.string .empty), h)
      | some [.slc b2 o n c] =>
        match h.get b2 with
        | some (.cells cs s) =>
          if 0 < n ∧ 0 < c ∧ n ≤ 65536 ∧ s / mark = 6 ∧ o + n ≤ cs.length then
            match bytesIn ((cs.drop o).take n) with
            | some bs => some (plain (.string ⟨bs.toArray⟩), h.drop b2)
            | none => none
          else none
        | _ => none
      | _ => none
    | _ => none
  | _ => none
def special_ (C : Cfg) (call : CallF) : CallF := fun f args h =>
  if f = 138 then catch_ C call f args h else if f = 376 then copyCheck_ f args h else if f = 329 then text_ f args h else none

/-- A plan for a region that draws its order. -/
def nextStep (ops : Array Oper) (listed : Array Bool) : Option (Nat × Bool) :=
  let rs := Region.ready .any ops listed
  match rs.find? fun i => Region.free .any ops listed i && (match ops[i]? with | some o => stillKind o.op | none => false) with
  | some i => some (i, true)
  | none => match rs with
    | [i] => some (i, false)
    | _ => none
def mkPlan (ops : Array Oper) : Nat → Array Bool → Option Plan
  | 0, _ => some .nil
  | n + 1, listed => match nextStep ops listed with
    | some (i, b) => match mkPlan ops n (listed.setIfInBounds i true) with
      | some pl => some (.one i b pl)
      | none => none
    | none => match Region.ready .any ops listed with
      | [i, j] => match mkPlan ops n (listed.setIfInBounds i true), mkPlan ops n (listed.setIfInBounds j true) with
        | some p, some q => some (.both i j p q)
        | _, _ => none
      | _ => none
end Go.Proofs.YtlhaaokldjdnnaaGreatDoor.Ev
