/-
  The law StoreSplits of almanaclaw20 answers true for every path and every list of users whose bulk is at most 1048576: the evaluator, its soundness, what each function answers, the row and its card. This part: EvEv1, EvLow, EvRel, EvOps, EvOps2, EvEq, EvOps3, EvOps4, EvOps5, EvMem, EvMem2, EvMem3, EvMem4, EvMem5, EvMem6.
-/
import GoSem.Step
import Derived.RangeFuncLeaves
import Derived.RangeFuncCalls
import Derived.OrdersIn
import Derived.Laws.Cells
import Derived.Lib.FrozenHead
import Derived.Laws.Closers25
import Derived.Laws.StructEq
import Derived.IntWalk
import Derived.Laws.BytesString
import Derived.Lib.UnsafeStr
set_option linter.all false
/- An evaluator over plain values, that stands for the machine: its values, its heap, its code, its steps. Nothing is proved here. -/
namespace Go.Ev

/-- Values: `vec`: a slice whose cells nobody writes any more, with its rows; `own`: a slice over an object of the evaluator's heap (its number, its age, cell, length, cells of an element, capacity where it is known); `ptr`: a pointer into such an object; `fp`: a pointer into cells that nobody writes. -/
inductive V where
  | bool (b : Bool)
  | int (k : IntKind) (n : Int)
  | str (s : List UInt8)
  | vec (isNil : Bool) (cap : Option Nat) (rows : List (List V))
  | own (id gen off len es : Nat) (cap : Option Nat)
  | nilp
  | ptr (id gen off : Nat)
  | fp (cells : List V) (off : Nat)
  | nilf
  | fn (f : Fn) (first cap : List V)
  | nilm
  | map (id : Nat)
  | it (id : Nat)
  | nili
  | iface (t : TypeId) (v : V)
  | agg (cs : List V)
  | tup (vs : List V)
  deriving Inhabited

def undefV : V := .tup []

inductive Rd where
  | t (n : Nat)
  | c (v : V)

/-- What a load takes: one cell, or n of them as an aggregate. -/
inductive Lk where
  | one
  | many (n : Nat)

inductive Xk where
  | str
  | sl (es : Nat)
  | arr (n es : Nat)

/-- Kinds of cells, and of what is compared. -/
inductive Kk where
  | b | i | s

inductive Ek where
  | b | sl | m | f | ifc

inductive Ck where
  | int (k : IntKind)
  | same
  | strBytes (el : TypeId)
  | bytesStr
  | intStr
  | toUnsafe
  | ofUnsafe (u size : Nat)

/-- What is handed to append behind the slice. -/
inductive Iop where
  | mov (x : Rd)
  | pick (c a b : Rd)
  | alloc (t : TypeId) (cells : List V)
  | box (t : TypeId) (x : Rd)
  | build (zero : List V) (parts : List (Nat × Nat × Rd))
  | mkslice (t : TypeId) (es n : Nat) (zero : List V) (parts : List (Nat × Nat × Rd))
  | load (k : Lk) (a : Rd)
  | store (n : Nat) (a x : Rd)
  | nilck (x : Rd)
  | bin (o : BinOp) (x y : Rd)
  | eqs (ks : List Kk) (neg : Bool) (x y : Rd)
  | eqx (k : Ek) (neg : Bool) (x y : Rd)
  | eqp (neg : Bool) (x y : Rd)
  | un (o : UnOp) (x : Rd)
  | conv (k : Ck) (x : Rd)
  | iface (t : TypeId) (x : Rd)
  | mkfn (f : Fn) (first cap : List Rd)
  | mkmap
  | makesl (t : TypeId) (es bytes : Nat) (zero : List V) (len cap : Rd)
  | slice (k : Xk) (x : Rd) (lo hi mx : Option Rd)
  | slicea (n es : Nat) (x : Rd) (lo hi mx : Option Rd)
  | off (n : Nat) (x : Rd)
  | fld (off : Nat) (k : Lk) (x : Rd)
  | ixaddr (k : Xk) (x i : Rd)
  | idx (k : Xk) (l : Lk) (x i : Rd)
  | look (kk : Kk) (zero : V) (x i : Rd) (ok : Bool)
  | mapup (kk : Kk) (m k v : Rd)
  | range (x : Rd)
  | next (it : Rd)
  | assert (t : TypeId) (zero : V) (x : Rd) (ok : Bool)
  | ext (x : Rd) (i : Nat)
  | len (x : Rd)
  | slen (x : Rd)
  | mlen (x : Rd)
  | cap (x : Rd)
  | append (t : TypeId) (es bytes : Nat) (s x : Rd)
  | appendz (t : TypeId) (es bytes : Nat) (zero : List V) (s x : Rd)
  | copy (es : Nat) (d s : Rd)
  | clear (es : Nat) (zero : List V) (x : Rd)
  | min (xs : List Rd)
  | max (xs : List Rd)
  | sdata (x : Rd)
  | ustr (el : TypeId) (a n : Rd)
  | del (kk : Kk) (m k : Rd)
  | call (f : FuncId) (args : List Rd)
  | callv (x : Rd) (args : List Rd)
  | panic (x : Rd)
  | bad

structure Ins where
  dst : Option Nat
  op : Iop
  guard : Option (Nat × Bool)

/-- What floats over the heaps of a region whose order is open: a load; a call of a quiet function. -/
inductive Float where
  | load (k : Lk) (a : Rd)
  | call (args : List Rd)

/-- What must hold behind a region whose order is open: slot `dst` is what a load of kind k at `a` tells in all heaps from number lo to number hi; the arguments of a call are the same in all of them. -/
structure Chk where
  dst : Nat
  guard : Option (Nat × Bool)
  what : Float
  lo : Nat
  hi : Nat

/-- How an operation of such a region stands: it comes in its turn and may write; it floats; it is a call that floats; it makes an object and looks at none. -/
inductive Md where
  | spine | free | call | alo
  deriving DecidableEq

inductive IR where
  | skip
  | reg (ops : List Ins)
  | regd (ops : List (Ins × Md)) (chks : List Chk)
  | seq (a b : IR)
  | cond (c : Rd) (a b : IR)
  | block (id : Nat) (b : IR)
  | loop (b : IR)
  | rfun (f : Rd) (params : List Nat) (assign body : IR)
  | exit (id : Nat)
  | scope (b : IR)
  | ret
  | bad

inductive Jump where
  | none
  | ret
  | exit (id : Nat)

inductive Ls where
  | ready | busy | done | over
  deriving DecidableEq

inductive Obj where
  | cells (el : TypeId) (cs : List V) (gen prot : Nat) (frz : Bool)
  | map (es : List (V × V))
  | siter (s : List UInt8) (pos : Nat)
  | loop (st : Ls) (jump : Jump) (env : List V) (params : List Nat) (assign body : IR)
  | other

abbrev Heap := List Obj

inductive Out where
  | norm
  | ret
  | exit (id : Nat)
  | pan (v : V)

inductive CR where
  | ok (v : V)
  | pan (v : V)

inductive Rv where
  | tmp (t : Nat)
  | cell (a : Nat) (k : Lk)

inductive Prim where
  | indexByte | indexStr | countStr | makeNoZero (el : TypeId) | noEscape | cmpStr

inductive Fun where
  | code (ntmps : Nat) (results : List Rv) (quiet : Bool) (body : IR)
  | prim (p : Prim)

abbrev Tab := FuncId → Option Fun

inductive Callee where
  | f (f : FuncId)
  | yield (l : Nat)

/-! ### small words -/
def Rd.ev (env : List V) : Rd → V
  | .t n => env.getD n undefV
  | .c v => v

def put (env : List V) : Option Nat → V → List V
  | none, _ => env
  | some d, v => env.set d v

def Zbt : V → List V
  | .agg cs => cs
  | v => [v]

def Zdp : V → Bool
  | .tup _ => true
  | _ => false

def take (k : Lk) (cs : List V) (off : Nat) : Option V :=
  match k with
  | .one => cs[off]?
  | .many n => if off + n ≤ cs.length then some (.agg ((cs.drop off).take n)) else none

def Zdb (cs : List V) (off : Nat) (xs : List V) : List V := cs.take off ++ xs ++ cs.drop (off + xs.length)

def rowsOf (es n : Nat) (cs : List V) : List (List V) := (List.range n).map fun i => (cs.drop (i * es)).take es

/-- Have the rows of a slice es cells each? (They are all of one length.) -/
def rowsOk (es : Nat) : List (List V) → Bool
  | [] => true
  | r :: _ => r.length == es

def byteV (b : UInt8) : V := .int .u8 b.toNat

def bytesOf : List V → Option (List UInt8)
  | [] => some []
  | .int .u8 n :: r => (bytesOf r).map (UInt8.ofNat n.toNat :: ·)
  | _ => none

/-- The rows' cells of a slice, n elements of it. -/
def Zab (H : Heap) (es n : Nat) : V → Option (List V)
  | .vec _ _ rows => if n ≤ rows.length ∧ rowsOk es rows then some (rows.take n).flatten else none
  | .own id g off len es' _ =>
    match H[id]? with
    | some (.cells _ cs g' _ _) => if g' = g ∧ es' = es ∧ n ≤ len ∧ off + n * es ≤ cs.length then some ((cs.drop off).take (n * es)) else none
    | _ => none
  | .str s => if es = 1 ∧ n ≤ s.length then some ((s.take n).map byteV) else none
  | _ => none

def Zdr : V → Option Nat
  | .vec _ _ rows => some rows.length
  | .own _ _ _ len _ _ => some len
  | .str s => some s.length
  | _ => none

def lenSl : V → Option Nat
  | .vec _ _ rows => some rows.length
  | .own _ _ _ len _ _ => some len
  | _ => none

def loadAt (H : Heap) (k : Lk) : V → Option V
  | .ptr id g off =>
    match H[id]? with
    | some (.cells _ cs g' _ _) => if g' = g then take k cs off else none
    | _ => none
  | .fp cells off => take k cells off
  | _ => none

/-- A write of cells into an object. -/
def Zck (H : Heap) (bar id g off : Nat) (xs : List V) : Option Heap :=
  match H[id]? with
  | some (.cells el cs g' prot frz) =>
    if bar ≤ id ∧ g' = g ∧ frz = false ∧ prot ≤ off ∧ off + xs.length ≤ cs.length then some (H.set id (.cells el (Zdb cs off xs) g prot false)) else none
  | _ => none

/-- A write of cells through a slice that has room for them. -/
def Zbd (H : Heap) (bar id g off : Nat) (xs : List V) : Option Heap :=
  match H[id]? with
  | some (.cells el cs g' prot frz) =>
    if bar ≤ id ∧ g' = g ∧ frz = false ∧ prot ≤ off ∧ off ≤ cs.length then some (H.set id (.cells el (Zdb cs off xs) g prot false)) else none
  | _ => none

def Zcf (H : Heap) (bar n : Nat) (a x : V) : Option Heap :=
  match a with
  | .ptr id g off => if (Zbt x).length = n ∧ Zdp x = false then Zck H bar id g off (Zbt x) else none
  | _ => none

def Zdo (zero : List V) : List (Nat × Nat × V) → Option (List V)
  | [] => some zero
  | (o, n, v) :: r => if (Zbt v).length = n ∧ o + n ≤ zero.length ∧ Zdp v = false then Zdo (Zdb zero o (Zbt v)) r else none

def Zbu (env : List V) (l : List (Nat × Nat × Rd)) : List (Nat × Nat × V) := l.map fun (o, n, x) => (o, n, x.ev env)

def asInt : V → Option Int
  | .int _ n => some n
  | _ => none

def bound (x : Option V) (d most : Nat) : Option Nat :=
  match x with
  | none => some d
  | some (.int _ i) => if 0 ≤ i ∧ i ≤ most then some i.toNat else none
  | _ => none

/-! ### equality -/
/-- Equality at a kind. -/
def eqX : Ek → V → V → Option Bool
  | .b, .bool a, .bool b => some (a == b)
  | .sl, .vec true _ _, .vec n _ _ => some n
  | .sl, .vec true _ _, .own .. => some false
  | .sl, .vec false _ _, .vec true _ _ => some false
  | .sl, .own .., .vec true _ _ => some false
  | .m, .nilm, .nilm => some true
  | .m, .map _, .nilm => some false
  | .f, .nilf, .nilf => some true
  | .f, .fn .., .nilf => some false
  | .ifc, .nili, .nili => some true
  | .ifc, .nili, .iface .. => some false
  | .ifc, .iface .., .nili => some false
  | _, _, _ => none

def eqK : Kk → V → V → Option Bool
  | .b, .bool a, .bool b => some (a == b)
  | .i, .int j a, .int k b => if j = k then some (a == b) else none
  | .s, .str a, .str b => some (a == b)
  | _, _, _ => none

/-- Equality of structs, whose cells are told one by one. -/
def eqL : List Kk → List V → List V → Option Bool
  | [], [], [] => some true
  | k :: ks, x :: xs, y :: ys =>
    match eqK k x y, eqL ks xs ys with
    | some a, some b => some (a && b)
    | _, _ => none
  | _, _, _ => none

/-- Equality of pointers. -/
def eqP (H : Heap) : V → V → Option Bool
  | .nilp, .nilp => some true
  | .nilp, .ptr .. => some false
  | .nilp, .fp .. => some false
  | .ptr .., .nilp => some false
  | .fp .., .nilp => some false
  | .ptr id g o, .ptr id' g' o' =>
    match H[id]? with
    | some (.cells _ _ gg _ _) => if id = id' ∧ gg = g ∧ gg = g' then some (o == o') else none
    | _ => none
  | _, _ => none

def bytesLess : List UInt8 → List UInt8 → Bool
  | _, [] => false
  | [], _ :: _ => true
  | a :: x, b :: y => a < b || (a == b && bytesLess x y)

def intBits (op : BinOp) (k : IntKind) (x y : Int) : Option V :=
  let a := BitVec.ofInt k.bits x
  let b := BitVec.ofInt k.bits y
  match op with
  | .and => some (.int k (k.wrap (a &&& b).toNat))
  | .or => some (.int k (k.wrap (a ||| b).toNat))
  | .xor => some (.int k (k.wrap (a ^^^ b).toNat))
  | .andNot => some (.int k (k.wrap (a &&& ~~~b).toNat))
  | _ => none

def intBin (op : BinOp) (k : IntKind) (a b : Int) : Option V :=
  match op with
  | .add => some (.int k (k.wrap (a + b)))
  | .sub => some (.int k (k.wrap (a - b)))
  | .mul => some (.int k (k.wrap (a * b)))
  | .quo => if b = 0 then none else some (.int k (k.wrap (a.tdiv b)))
  | .rem => if b = 0 then none else some (.int k (a.tmod b))
  | .eql => some (.bool (a == b))
  | .neq => some (.bool (a != b))
  | .lss => some (.bool (a < b))
  | .leq => some (.bool (a ≤ b))
  | .gtr => some (.bool (a > b))
  | .geq => some (.bool (a ≥ b))
  | op => intBits op k a b

def strBin (op : BinOp) (x y : List UInt8) : Option V :=
  match op with
  | .add => if x.length + y.length ≤ 9223372036854775807 then some (.str (x ++ y)) else none
  | .eql => some (.bool (x == y))
  | .neq => some (.bool !(x == y))
  | .lss => some (.bool (bytesLess x y))
  | .leq => some (.bool (bytesLess x y || x == y))
  | .gtr => some (.bool !(bytesLess x y || x == y))
  | .geq => some (.bool !(bytesLess x y))
  | _ => none

def binV (op : BinOp) (x y : V) : Option V :=
  match op, x, y with
  | .shl, .int k a, .int _ b => if b < 0 then none else some (.int k (k.wrap (a * 2 ^ (min b.toNat k.bits))))
  | .shr, .int k a, .int _ b => if b < 0 then none else some (.int k (a.fdiv (2 ^ (min b.toNat k.bits))))
  | op, .int k a, .int k' b => if k = k' then intBin op k a b else none
  | op, .str a, .str b => strBin op a b
  | _, _, _ => none

def unV (op : UnOp) (x : V) : Option V :=
  match op, x with
  | .neg, .int k n => some (.int k (k.wrap (-n)))
  | .xor, .int k n => intBits .xor k (if k.signed then -1 else k.max) n
  | .not, .bool b => some (.bool !b)
  | _, _ => none

def findKey (kk : Kk) (k : V) : List (V × V) → Nat → Option (Option (Nat × V))
  | [], _ => some none
  | (k', v) :: es, i =>
    match eqK kk k k' with
    | some true => some (some (i, v))
    | some false => findKey kk k es (i + 1)
    | none => none

def keyOk : Kk → V → Bool
  | .b, .bool _ | .i, .int .. | .s, .str _ => true
  | _, _ => false

def mapOf (H : Heap) : V → Option (List (V × V))
  | .nilm => some []
  | .map id => match H[id]? with
    | some (.map es) => some es
    | _ => none
  | _ => none

/-! ### operations that call nothing -/
def capOr (x : Option V) (c : Option Nat) (m l : Nat) : Option Nat :=
  match x with
  | some _ => some (m - l)
  | none => c.map (· - l)

/-- The bounds of a slicing: low, high, most. -/
def bounds (n : Nat) (cap : Nat) (lo hi mx : Option V) : Option (Nat × Nat × Nat) :=
  match mx, hi with
  | some _, none => none
  | _, _ =>
    match bound mx cap cap with
    | none => none
    | some m => match bound hi n m with
      | none => none
      | some h => match bound lo 0 h with
        | none => none
        | some l => some (l, h, m)

def sliceV (k : Xk) (x : V) (lo hi mx : Option V) : Option V :=
  match k, x with
  | .str, .str s =>
    match mx, bounds s.length s.length lo hi none with
    | none, some (l, h, _) => some (.str ((s.take h).drop l))
    | _, _ => none
  | .sl es, .vec n c rows =>
    match bounds rows.length rows.length lo hi mx with
    | some (l, h, m) => if rowsOk es rows then some (.vec n (capOr mx c m l) ((rows.take h).drop l)) else none
    | none => none
  | .sl es, .own id g off len es' c =>
    if es' = es then
      match bounds len (c.getD len) lo hi mx with
      | some (l, h, m) => some (.own id g (off + l * es) (h - l) es (capOr mx c m l))
      | none => none
    else none
  | _, _ => none

/-- A slice of an array in memory. -/
def sliceA (H : Heap) (n es : Nat) (x : V) (lo hi mx : Option V) : Option V :=
  match x with
  | .ptr id g off =>
    match H[id]? with
    | some (.cells _ cs g' _ _) =>
      if g' = g ∧ off + n * es ≤ cs.length then
        match bounds n n lo hi mx with
        | some (l, h, m) => some (.own id g (off + l * es) (h - l) es (some (m - l)))
        | none => none
      else none
    | _ => none
  | _ => none

def ixaddrV (k : Xk) (x i : V) : Option V :=
  match k, x, i with
  | .sl es, .vec _ _ rows, .int _ i => if 0 ≤ i then (rows[i.toNat]?).bind fun r => if r.length = es then some (.fp r 0) else none else none
  | .sl es, .own id g off len es' _, .int _ i => if es' = es ∧ 0 ≤ i ∧ i < len then some (.ptr id g (off + i.toNat * es)) else none
  | .arr n es, .ptr id g off, .int _ i => if 0 ≤ i ∧ i < n then some (.ptr id g (off + i.toNat * es)) else none
  | .arr n es, .fp cs off, .int _ i => if 0 ≤ i ∧ i < n then some (.fp cs (off + i.toNat * es)) else none
  | _, _, _ => none

def idxV (k : Xk) (l : Lk) (x i : V) : Option V :=
  match k, x, i with
  | .str, .str s, .int _ i => if 0 ≤ i then (s[i.toNat]?).map byteV else none
  | .arr n es, .agg cs, .int _ i => if 0 ≤ i ∧ i < n then Ev.take l cs (i.toNat * es) else none
  | _, _, _ => none

def Zas (H : Heap) (t es n : Nat) (cs : List V) : V × Heap := (.own H.length 0 0 n es none, H ++ [.cells t cs 0 0 false])

def Zbh (H : Heap) (bar t es bytes : Nat) (s : V) (xs : List V) (m : Nat) : Option (V × Heap) :=
  match s with
  | .vec isNil c rows =>
    if m = 0 then some (s, H) else
    if (rows.length + m) * bytes ≤ 140737488355328 ∧ rows.length + m ≤ 9223372036854775807 ∧ rowsOk es rows then
      if isNil then some (Zas H t es (rows.length + m) (rows.flatten ++ xs)) else
      match c with
      | some c => if c < rows.length + m then some (Zas H t es (rows.length + m) (rows.flatten ++ xs)) else none
      | none => none
    else none
  | .own id g off len es' c =>
    if m = 0 then some (s, H) else
    if (len + m) * bytes ≤ 140737488355328 ∧ len + m ≤ 9223372036854775807 ∧ es' = es then
      match H[id]? with
      | some (.cells el cs g' prot frz) =>
        if g' = g ∧ off + len * es ≤ cs.length then
          match c with
          | some c =>
            if c < len + m then some (Zas H t es (len + m) ((cs.drop off).take (len * es) ++ xs))
            else (Zbd H bar id g (off + len * es) xs).map fun H' => (.own id g off (len + m) es (some c), H')
          | none =>
            if bar ≤ id ∧ frz = false ∧ prot ≤ off + len * es ∧ el = t then
              some (.own id (g + 1) 0 (len + m) es none, H.set id (.cells t ((cs.drop off).take (len * es) ++ xs) (g + 1) (prot - off) false))
            else none
        else none
      | _ => none
    else none
  | _ => none

def Zcl (zero : List V) : Nat → List V
  | 0 => []
  | n + 1 => zero ++ Zcl zero n

def minV : V → V → Option V
  | .int k x, .int k' y => if k = k' then some (.int k (if y < x then y else x)) else none
  | _, _ => none
def maxV : V → V → Option V
  | .int k x, .int k' y => if k = k' then some (.int k (if y > x then y else x)) else none
  | _, _ => none

def foldO (f : V → V → Option V) : V → List V → Option V
  | x, [] => some x
  | x, y :: r => (f x y).bind fun z => foldO f z r

def convV (H : Heap) (k : Ck) (x : V) : Option (V × Heap) :=
  match k, x with
  | .int k, .int _ n => some (.int k (k.wrap n), H)
  | .same, .str s => some (.str s, H)
  | .strBytes t, .str s => some (Zas H t 1 s.length (s.map byteV))
  | .toUnsafe, .nilp => some (.nilp, H)
  | .toUnsafe, .ptr id g off => match H[id]? with
    | some (.cells _ cs g' _ _) => if g' = g ∧ off < cs.length then some (.ptr id g off, H) else none
    | _ => none
  | .ofUnsafe _ _, .nilp => some (.nilp, H)
  | .ofUnsafe u size, .ptr id g off => match H[id]? with
    | some (.cells el cs g' _ _) => if g' = g ∧ g = 0 ∧ el = u ∧ off = 0 ∧ cs.length = size then some (.ptr id g off, H) else none
    | _ => none
  | .bytesStr, x => do
    let n ← Zdr x
    match x with
    | .str _ => none
    | x => do
      let cs ← Zab H 1 n x
      let b ← bytesOf cs
      pure (.str b, H)
  | .intStr, .int _ n => some (.str (Utf8.encode n).data.toList, H)
  | _, _ => none

/-- A new object at a place of the heap. -/
def putNew (H : Heap) (id : Nat) (o : Obj) : Heap := if id < H.length then H.set id o else H ++ [o]

/-- What an operation makes that makes one object and looks at none: its value, if the object is number `id`, and the object. -/
def newV (id : Nat) (env : List V) : Iop → Option (V × Obj)
  | .alloc t cells => some (.ptr id 0 0, .cells t cells 0 0 false)
  | .box t x => if Zdp (x.ev env) then none else some (.ptr id 0 0, .cells t (Zbt (x.ev env)) 0 0 false)
  | .mkslice t es n zero parts => (Zdo (Zcl zero n) (Zbu env parts)).map fun cs => (.own id 0 0 n es (some n), .cells t cs 0 0 false)
  | _ => none

def refV : V → Bool
  | .own .. | .ptr .. | .map _ | .it _ => true
  | _ => false

/-- An operation that calls nothing: its value, and the heap behind it. -/
def opV (bar : Nat) (env : List V) (H : Heap) : Iop → Option (V × Heap)
  | .mov x => some (x.ev env, H)
  | .pick c a b => match c.ev env with
    | .bool true => some (a.ev env, H)
    | .bool false => some (b.ev env, H)
    | _ => none
  | .alloc t cells => some (.ptr H.length 0 0, H ++ [.cells t cells 0 0 false])
  | .box t x => if Zdp (x.ev env) then none else some (.ptr H.length 0 0, H ++ [.cells t (Zbt (x.ev env)) 0 0 false])
  | .build zero parts => (Zdo zero (Zbu env parts)).map fun cs => (.agg cs, H)
  | .mkslice t es n zero parts => (Zdo (Zcl zero n) (Zbu env parts)).map fun cs => (.own H.length 0 0 n es (some n), H ++ [.cells t cs 0 0 false])
  | .load k a => (loadAt H k (a.ev env)).map (·, H)
  | .store n a x => (Zcf H bar n (a.ev env) (x.ev env)).map (undefV, ·)
  | .nilck x => match x.ev env with
    | .ptr i g o => some (.ptr i g o, H)
    | .fp c o => some (.fp c o, H)
    | .fn f a c => some (.fn f a c, H)
    | _ => none
  | .bin o x y => (binV o (x.ev env) (y.ev env)).map (·, H)
  | .eqs ks neg x y => match x.ev env, y.ev env with
    | .agg a, .agg b => (eqL ks a b).map fun r => (.bool (r != neg), H)
    | _, _ => none
  | .eqx k neg x y => (eqX k (x.ev env) (y.ev env)).map fun r => (.bool (r != neg), H)
  | .eqp neg x y => (eqP H (x.ev env) (y.ev env)).map fun r => (.bool (r != neg), H)
  | .un o x => (unV o (x.ev env)).map (·, H)
  | .conv k x => convV H k (x.ev env)
  | .iface t x => some (.iface t (x.ev env), H)
  | .mkfn f first cap => some (.fn f (first.map (·.ev env)) (cap.map (·.ev env)), H)
  | .mkmap => some (.map H.length, H ++ [.map []])
  | .makesl t es bytes zero len cap => match len.ev env, cap.ev env with
    | .int _ l, .int _ c =>
      if 0 ≤ l ∧ l ≤ c ∧ (bytes * c : Int) ≤ 281474976710656 ∧ c ≤ 9223372036854775807 then some (.own H.length 0 0 l.toNat es (some c.toNat), H ++ [.cells t (Zcl zero c.toNat) 0 0 false]) else none
    | _, _ => none
  | .slice k x lo hi mx => (sliceV k (x.ev env) (lo.map (·.ev env)) (hi.map (·.ev env)) (mx.map (·.ev env))).map (·, H)
  | .slicea n es x lo hi mx => (sliceA H n es (x.ev env) (lo.map (·.ev env)) (hi.map (·.ev env)) (mx.map (·.ev env))).map (·, H)
  | .off n x => match x.ev env with
    | .ptr i g o => some (.ptr i g (o + n), H)
    | .fp c o => some (.fp c (o + n), H)
    | _ => none
  | .fld off k x => match x.ev env with
    | .agg cs => (take k cs off).map (·, H)
    | _ => none
  | .ixaddr k x i => (ixaddrV k (x.ev env) (i.ev env)).map (·, H)
  | .idx k l x i => (idxV k l (x.ev env) (i.ev env)).map (·, H)
  | .look kk zero x i ok => do
    let es ← mapOf H (x.ev env)
    if keyOk kk (i.ev env) then
      let r ← findKey kk (i.ev env) es 0
      match r with
      | some (_, v) => pure (if ok then .tup [v, .bool true] else v, H)
      | none => pure (if ok then .tup [zero, .bool false] else zero, H)
    else none
  | .mapup kk m k v => match m.ev env with
    | .map id => do
      let es ← mapOf H (.map id)
      if bar ≤ id ∧ keyOk kk (k.ev env) = true then
        let r ← findKey kk (k.ev env) es 0
        match r with
        | some (i, _) => pure (undefV, H.set id (.map (es.set i (k.ev env, v.ev env))))
        | none => pure (undefV, H.set id (.map (es ++ [(k.ev env, v.ev env)])))
      else none
    | _ => none
  | .range x => match x.ev env with
    | .str s => some (.it H.length, H ++ [.siter s 0])
    | _ => none
  | .next it => match it.ev env with
    | .it id => match H[id]? with
      | some (.siter s pos) =>
        if bar ≤ id then
          if pos < s.length then
            let (c, w) := Utf8.decode ⟨s.toArray⟩ pos
            some (.tup [.bool true, .int .i64 pos, .int .i32 c], H.set id (.siter s (pos + w)))
          else some (.tup [.bool false], H)
        else none
      | _ => none
    | _ => none
  | .assert t zero x ok => match x.ev env with
    | .nili => if ok then some (.tup [zero, .bool false], H) else none
    | .iface t' v => if t' = t then some (if ok then .tup [v, .bool true] else v, H) else if ok then some (.tup [zero, .bool false], H) else none
    | _ => none
  | .ext x i => match x.ev env with
    | .tup vs => (vs[i]?).map (·, H)
    | _ => none
  | .len x => (lenSl (x.ev env)).map fun n => (.int .i64 n, H)
  | .slen x => match x.ev env with
    | .str s => some (.int .i64 s.length, H)
    | _ => none
  | .mlen x => (mapOf H (x.ev env)).map fun es => (.int .i64 es.length, H)
  | .cap x => match x.ev env with
    | .own _ _ _ _ _ (some c) => some (.int .i64 c, H)
    | .vec true _ [] => some (.int .i64 0, H)
    | _ => none
  | .append t es bytes s x => do
    let m ← Zdr (x.ev env)
    let xs ← Zab H es m (x.ev env)
    Zbh H bar t es bytes (s.ev env) xs m
  | .appendz t es bytes zero s x => match x.ev env with
    | .int _ l => if 0 ≤ l ∧ (l * bytes : Int) ≤ 281474976710656 ∧ l ≤ 9223372036854775807 then Zbh H bar t es bytes (s.ev env) (Zcl zero l.toNat) l.toNat else none
    | _ => none
  | .copy es d s => match d.ev env with
    | .own id g off len es' _ => do
      let m ← Zdr (s.ev env)
      let xs ← Zab H es (min m len) (s.ev env)
      if es' = es then
        if min m len = 0 then pure (.int .i64 0, H) else
        let H' ← Zbd H bar id g off xs
        pure (.int .i64 (min m len : Nat), H')
      else none
    | .vec _ _ [] => (Zdr (s.ev env)).map fun _ => (.int .i64 0, H)
    | _ => none
  | .clear es zero x => match x.ev env with
    | .own id g off len es' _ => if len = 0 then some (undefV, H) else if es' = es then (Zbd H bar id g off (Zcl zero len)).map (undefV, ·) else none
    | .vec _ _ [] => some (undefV, H)
    | _ => none
  | .min xs => match xs.map (·.ev env) with
    | x :: r => (foldO minV x r).map (·, H)
    | [] => none
  | .max xs => match xs.map (·.ev env) with
    | x :: r => (foldO maxV x r).map (·, H)
    | [] => none
  | .sdata x => match x.ev env with
    | .vec true _ [] => some (.nilp, H)
    | .own id g off len _ _ => if 0 < len then some (.ptr id g off, H) else none
    | _ => none
  | .ustr t a n => match a.ev env, n.ev env with
    | .nilp, .int _ n => if n = 0 then some (.str [], H) else none
    | .ptr id g off, .int _ n =>
      if n = 0 then some (.str [], H) else
      match H[id]? with
      | some (.cells el cs g' prot frz) =>
        if g' = g ∧ el = t ∧ frz = false ∧ 0 ≤ n ∧ off + n.toNat ≤ cs.length ∧ bar ≤ id ∧ n ≤ 9223372036854775807 then do
          let b ← bytesOf ((cs.drop off).take n.toNat)
          pure (.str b, H.set id (.cells el cs g prot true))
        else none
      | _ => none
    | _, _ => none
  | .del kk m k => match m.ev env with
    | .map id => do
      let es ← mapOf H (.map id)
      if bar ≤ id ∧ keyOk kk (k.ev env) = true then
        let r ← findKey kk (k.ev env) es 0
        match r with
        | some (i, _) => pure (undefV, H.set id (.map (es.eraseIdx i)))
        | none => pure (undefV, H)
      else none
    | _ => none
  | .call .. | .callv .. | .panic _ | .bad => none

/-! ### freezing -/
mutual
/-- Does a value hold no reference to an object from `lo` on? -/
def free (lo : Nat) : V → Bool
  | .own id .. => id < lo
  | .ptr id .. => id < lo
  | .map id => id < lo
  | .it id => id < lo
  | .fn f a c => (match f with | .yield _ => false | _ => true) && freeL lo a && freeL lo c
  | .iface _ v => free lo v
  | .agg cs => freeL lo cs
  | .tup vs => freeL lo vs
  | .vec _ _ rows => freeR lo rows
  | .fp cs _ => freeL lo cs
  | _ => true
def freeL (lo : Nat) : List V → Bool
  | [] => true
  | v :: r => free lo v && freeL lo r
def freeR (lo : Nat) : List (List V) → Bool
  | [] => true
  | v :: r => freeL lo v && freeR lo r
end

mutual
/-- May a value be handed out though what it was made of is written later? -/
def flat : V → Bool
  | .vec _ _ [] => true
  | .vec .. => false
  | .fp .. => false
  | .agg cs => flatL cs
  | .tup vs => flatL vs
  | .iface _ v => flat v
  | .fn _ a c => flatL a && flatL c
  | _ => true
def flatL : List V → Bool
  | [] => true
  | v :: r => flat v && flatL r
end

def mapO {α β : Type} (f : α → Option β) : List α → Option (List β)
  | [] => some []
  | a :: r => match f a with
    | some b => match mapO f r with
      | some l => some (b :: l)
      | none => none
    | none => none

/-- A value whose own slices (from number lo on) are read, all the way down. -/
def frzV (lo : Nat) (H : Heap) : Nat → V → Option V
  | 0, _ => none
  | n + 1, .own id g off len es c =>
    if id < lo then some (.own id g off len es c) else
    match H[id]? with
    | some (.cells _ cs g' _ _) =>
      if g' = g ∧ off + len * es ≤ cs.length ∧ 0 < es then (mapO (frzV lo H n) ((cs.drop off).take (len * es))).map fun l => .vec false none (rowsOf es len l) else none
    | _ => none
  | n + 1, .agg cs => (mapO (frzV lo H n) cs).map .agg
  | n + 1, .tup cs => (mapO (frzV lo H n) cs).map .tup
  | n + 1, .iface t v => (frzV lo H n v).map (.iface t)
  | _ + 1, v => some v

def frzFuel : Nat := 64

/-- The objects that a freezing goes through. -/
def ownIds (H : Heap) : Nat → V → List Nat
  | 0, _ => []
  | n + 1, .own id _ off len es _ =>
    match H[id]? with
    | some (.cells _ cs _ _ _) => id :: ((cs.drop off).take (len * es)).flatMap (ownIds H n)
    | _ => [id]
  | n + 1, .agg cs => cs.flatMap (ownIds H n)
  | n + 1, .tup cs => cs.flatMap (ownIds H n)
  | n + 1, .iface _ v => ownIds H n v
  | _ + 1, _ => []

def markFrz (H : Heap) : List Nat → Heap
  | [] => H
  | id :: r => markFrz (match H[id]? with | some (.cells el cs g p _) => H.set id (.cells el cs g p true) | _ => H) r

/-! ### code -/
abbrev Caller := Callee → List V → Heap → Nat → Option (CR × Heap)

/-- One operation: `some (inl v)`: its value; `inr v`: a panic. -/
def insV (C : Caller) (bar : Nat) (env : List V) (H : Heap) : Iop → Option (CR × Heap)
  | .call f args => C (.f f) (args.map (·.ev env)) H bar
  | .callv x args => match x.ev env with
    | .fn (.func f) first cap => C (.f f) (first ++ args.map (·.ev env) ++ cap) H bar
    | .fn (.yield l) [] [] => C (.yield l) (args.map (·.ev env)) H bar
    | _ => none
  | .panic x => match x.ev env with
    | .iface t v => some (.pan (.iface t v), H)
    | _ => none
  | op => (opV bar env H op).map fun (v, H') => (.ok v, H')

def wanted (env : List V) : Option (Nat × Bool) → Bool
  | none => true
  | some (j, b) => match env[j]? with
    | some (.bool b') => b' == b
    | _ => false

def regV (C : Caller) (bar : Nat) : List Ins → List V → Heap → Option (Out × List V × Heap)
  | [], env, H => some (.norm, env, H)
  | i :: r, env, H =>
    if wanted env i.guard then
      match insV C bar env H i.op with
      | some (.ok v, H') => regV C bar r (put env i.dst v) H'
      | some (.pan v, H') => some (.pan v, env, H')
      | none => none
    else regV C bar r (put env i.dst undefV) H

/-- The arguments of a call that floats: they hold nothing of the heap; what is handed back binds nothing of it. -/
def looseOk (H : Heap) (args : List V) (v : V) : Bool :=
  match mapO (frzV 0 H frzFuel) args with
  | some as => freeL 0 as && (flat v || (args.flatMap (ownIds H frzFuel)).isEmpty)
  | none => false

def callArgs (env : List V) : Iop → List V
  | .call _ args => args.map (·.ev env)
  | _ => []

/-- A region whose order is open: as `regV`, with the heaps behind each operation of the spine. Objects that are made by floating operations lie at places of their own, from `base` on. -/
def regdV (C : Caller) (bar base : Nat) : List (Ins × Md) → Nat → List V → Heap → Option (List V × Heap × List Heap)
  | [], _, env, H => some (env, H, [])
  | (i, .alo) :: r, q, env, H =>
    if wanted env i.guard then
      match newV (base + q) env i.op with
      | some (v, o) => regdV C bar base r (q + 1) (put env i.dst v) (H.set (base + q) o)
      | none => none
    else regdV C bar base r (q + 1) (put env i.dst undefV) H
  | (i, .free) :: r, q, env, H =>
    if wanted env i.guard then
      match insV C bar env H i.op with
      | some (.ok v, _) => regdV C bar base r q (put env i.dst v) H
      | _ => none
    else regdV C bar base r q (put env i.dst undefV) H
  | (i, .call) :: r, q, env, H =>
    if wanted env i.guard then
      match insV C bar env H i.op with
      | some (.ok v, _) => if looseOk H (callArgs env i.op) v then regdV C bar base r q (put env i.dst v) H else none
      | _ => none
    else regdV C bar base r q (put env i.dst undefV) H
  | (i, .spine) :: r, q, env, H =>
    if wanted env i.guard then
      match insV C bar env H i.op with
      | some (.ok v, H') => (regdV C bar base r q (put env i.dst v) H').map fun (e, h, l) => (e, h, H' :: l)
      | _ => none
    else (regdV C bar base r q (put env i.dst undefV) H).map fun (e, h, l) => (e, h, H :: l)

mutual
def sameV : V → V → Bool
  | .bool a, .bool b => a == b
  | .int j a, .int k b => j == k && a == b
  | .str a, .str b => a == b
  | .vec n c r, .vec n' c' r' => n == n' && c == c' && sameR r r'
  | .own a b c d e f, .own a' b' c' d' e' f' => a == a' && b == b' && c == c' && d == d' && e == e' && f == f'
  | .nilp, .nilp => true
  | .ptr a b c, .ptr a' b' c' => a == a' && b == b' && c == c'
  | .fp a b, .fp a' b' => sameL a a' && b == b'
  | .nilf, .nilf => true
  | .fn f a b, .fn g a' b' => f == g && sameL a a' && sameL b b'
  | .nilm, .nilm => true
  | .map a, .map b => a == b
  | .it a, .it b => a == b
  | .nili, .nili => true
  | .iface t v, .iface t' v' => t == t' && sameV v v'
  | .agg a, .agg b => sameL a b
  | .tup a, .tup b => sameL a b
  | _, _ => false
def sameL : List V → List V → Bool
  | [], [] => true
  | a :: x, b :: y => sameV a b && sameL x y
  | _, _ => false
def sameR : List (List V) → List (List V) → Bool
  | [], [] => true
  | a :: x, b :: y => sameL a b && sameR x y
  | _, _ => false
end

def sameO : Option (List V) → Option (List V) → Bool
  | some a, some b => sameL a b
  | _, _ => false

def chkOk (env : List V) (hs : List Heap) (c : Chk) : Bool :=
  !wanted env c.guard ||
  match c.what with
  | .load k a => ((hs.drop c.lo).take (c.hi + 1 - c.lo)).all fun H => match loadAt H k (a.ev env) with
    | some v => sameV v (env.getD c.dst undefV)
    | none => false
  | .call args => match (hs.drop c.lo).take (c.hi + 1 - c.lo) with
    | [] => true
    | H :: r => (H :: r).all fun H' => sameO (mapO (frzV 0 H frzFuel) (args.map (·.ev env))) (mapO (frzV 0 H' frzFuel) (args.map (·.ev env)))

def iter (f : List V → Heap → Option (Out × List V × Heap)) : Nat → List V → Heap → Option (Out × List V × Heap)
  | 0, _, _ => none
  | n + 1, env, H =>
    match f env H with
    | some (.norm, env', H') => iter f n env' H'
    | r => r

def Jump.out : Jump → Out
  | .none => .norm
  | .ret => .ret
  | .exit id => .exit id

/-- Is the round's loop there? -/
def inLoop (H : Heap) : Option Nat → Bool
  | none => true
  | some l => match H[l]? with
    | some (.loop ..) => true
    | _ => false

def exec (C : Caller) (k bar : Nat) (rd : Option Nat) : IR → List V → Heap → Option (Out × List V × Heap)
  | .skip, env, H => some (.norm, env, H)
  | .reg ops, env, H => regV C bar ops env H
  | .regd ops chks, env, H =>
    let H0 := H ++ List.replicate (ops.countP fun x => x.2 = .alo) .other
    match regdV C bar H.length ops 0 env H0 with
    | some (env', H', hs) => if chks.all (chkOk env' (H0 :: hs)) then some (.norm, env', H') else none
    | none => none
  | .seq a b, env, H =>
    match exec C k bar rd a env H with
    | some (.norm, env', H') => exec C k bar rd b env' H'
    | r => r
  | .cond c a b, env, H =>
    match c.ev env with
    | .bool true => exec C k bar rd a env H
    | .bool false => exec C k bar rd b env H
    | _ => none
  | .block id b, env, H =>
    match exec C k bar rd b env H with
    | some (.exit id', env', H') => some (if id' = id then .norm else .exit id', env', H')
    | r => r
  | .loop b, env, H => iter (exec C k bar rd b) k env H
  | .rfun f ps assign body, env, H =>
    if inLoop H rd = false then none else
    match f.ev env with
    | .fn (.func g) first cap =>
      match C (.f g) (first ++ [.fn (.yield H.length) [] []] ++ cap) (H ++ [.loop .ready .none env ps assign body]) bar with
      | some (.ok _, H') =>
        match H'[H.length]? with
        | some (.loop st j e p a b) => if st = .busy then none else some (j.out, env, H'.set H.length (.loop .over j e p a b))
        | _ => none
      | some (.pan v, H') => some (.pan v, env, H')
      | none => none
    | _ => none
  | .exit id, env, H => some (.exit id, env, H)
  | .scope b, env, H => exec C k bar rd b env H
  | .ret, env, H => some (.ret, env, H)
  | .bad, _, _ => none

def resV (env : List V) (H : Heap) : Rv → Option V
  | .tmp t => some (env.getD t undefV)
  | .cell a k => loadAt H k (env.getD a undefV)

def resL (env : List V) (H : Heap) : List Rv → Option (List V)
  | [] => some []
  | r :: l => (resV env H r).bind fun v => (resL env H l).map (v :: ·)

def Zec : List V → V
  | [v] => v
  | l => .tup l

/-- A function's body, run. -/
def runF (C : Caller) (k bar ntmps : Nat) (results : List Rv) (body : IR) (args : List V) (H : Heap) : Option (CR × Heap) :=
  match exec C k bar none body (args ++ List.replicate (ntmps - args.length) undefV) H with
  | some (.norm, env, H') => (resL env H' results).map fun l => (.ok (Zec l), H')
  | some (.ret, env, H') => (resL env H' results).map fun l => (.ok (Zec l), H')
  | some (.pan v, _, H') => some (.pan v, H')
  | _ => none

def indexByteL (c : UInt8) : List UInt8 → Nat → Int
  | [], _ => -1
  | b :: r, i => if b == c then i else indexByteL c r (i + 1)

def isPre : List UInt8 → List UInt8 → Bool
  | [], _ => true
  | _ :: _, [] => false
  | a :: x, b :: y => a == b && isPre x y

def indexStrL (t : List UInt8) : List UInt8 → Nat → Int
  | [], i => if t.isEmpty then i else -1
  | b :: r, i => if isPre t (b :: r) then i else indexStrL t r (i + 1)

def countL (c : UInt8) : List UInt8 → Nat
  | [] => 0
  | b :: r => (if b == c then 1 else 0) + countL c r

def primV (p : Prim) (args : List V) (H : Heap) : Option (CR × Heap) :=
  match p, args with
  | .indexByte, [.str s, .int .u8 c] => some (.ok (.int .i64 (indexByteL (UInt8.ofNat c.toNat) s 0)), H)
  | .countStr, [.str s, .int .u8 c] => some (.ok (.int .i64 (countL (UInt8.ofNat c.toNat) s)), H)
  | .indexStr, [.str s, .str t] => if 2 ≤ t.length ∧ t.length ≤ 31 ∧ s.length < 4294967281 then some (.ok (.int .i64 (indexStrL t s 0)), H) else none
  | .cmpStr, [.str s, .str t] => some (.ok (.int .i64 (if bytesLess s t then -1 else if s == t then 0 else 1)), H)
  | .noEscape, [.nilp] => some (.ok .nilp, H)
  | .noEscape, [.ptr i g o] => some (.ok (.ptr i g o), H)
  | .makeNoZero t, [.int .i64 n] => if 0 ≤ n ∧ n ≤ 281474976710656 then some (.ok (.own H.length 0 0 n.toNat 1 none), H ++ [.cells t [] 0 0 false]) else none
  | _, _ => none

/-- A call of a quiet function: what it makes is gone behind it, but for what it hands back, which nobody writes any more. -/
def quietV (run : List V → Heap → Nat → Option (CR × Heap)) (args : List V) (H : Heap) (bar : Nat) : Option (CR × Heap) :=
  match mapO (frzV 0 H frzFuel) args with
  | none => none
  | some as =>
    let pure := freeL 0 as
    match run as (if pure then [] else markFrz H (args.flatMap (ownIds H frzFuel))) (if pure then 0 else H.length) with
    | some (.ok v, H') =>
      let lo := if pure then 0 else H.length
      match frzV lo H' frzFuel v with
      | some v' =>
        if free lo v' then
          if flat v' then some (.ok v', H) else
          if (args.flatMap (ownIds H frzFuel)).all (fun i => decide (bar ≤ i)) then some (.ok v', markFrz H (args.flatMap (ownIds H frzFuel))) else none
        else none
      | none => none
    | _ => none

def callN (T : Tab) : Nat → Caller
  | 0, _, _, _, _ => none
  | n + 1, .f f, args, H, bar =>
    match T f with
    | some (.code nt rs q body) =>
      if q then quietV (fun as h b => runF (callN T n) n b nt rs body as h) args H bar
      else runF (callN T n) n bar nt rs body args H
    | some (.prim p) => primV p args H
    | none => none
  | n + 1, .yield l, args, H, bar =>
    match H[l]? with
    | some (.loop .ready _ env ps assign body) =>
      if ps.length = args.length ∧ bar ≤ l then
        match exec (callN T n) n bar (some l) assign ((ps.zip args).foldl (fun e (t, a) => e.set t a) env) H with
        | some (.norm, env1, H1) =>
          match H1[l]? with
          | some (.loop .ready j1 e1 p1 a1 b1) =>
            match exec (callN T n) n bar (some l) body env1 (H1.set l (.loop .busy j1 e1 p1 a1 b1)) with
            | some (o, _, H2) =>
              match H2[l]? with
              | some (.loop .busy _ e2 p2 a2 b2) =>
                match o with
                | .norm => some (.ok (.bool true), H2.set l (.loop .ready .none e2 p2 a2 b2))
                | .ret => some (.ok (.bool false), H2.set l (.loop .done .ret e2 p2 a2 b2))
                | .exit id => some (.ok (.bool false), H2.set l (.loop .done (.exit id) e2 p2 a2 b2))
                | .pan _ => none
              | _ => none
            | none => none
          | _ => none
        | _ => none
      else none
    | _ => none

end Go.Ev
/- From the machine's code to the evaluator's. -/
namespace Go.Ev
open Go

def plainB : Value → Bool
  | .agg _ | .tuple _ => false
  | _ => true

mutual
def constV : Value → Option V
  | .bool b => some (.bool b)
  | .int k n => some (.int k n)
  | .string s => some (.str s.data.toList)
  | .pointer none => some .nilp
  | .slice none 0 0 => some (.vec true none [])
  | .map none => some .nilm
  | .func (.func f) ⟨[]⟩ ⟨[]⟩ => some (.fn (.func f) [] [])
  | .nilFunc => some .nilf
  | .nilIface => some .nili
  | .agg ⟨l⟩ => if l.all plainB then (constL l).map .agg else none
  | .tuple ⟨l⟩ => (constL l).map .tup
  | _ => none
def constL : List Value → Option (List V)
  | [] => some []
  | v :: r => match constV v with
    | some x => (constL r).map (x :: ·)
    | none => none
end

structure Env where
  P : Program
  quiet : FuncId → Bool
  globs : Nat → Option (List V)

variable (E : Env)

def lowR : Operand → Option Rd
  | .tmp t => some (.t t)
  | .const v => (constV v).map .c
  | .global g => (E.globs g).map fun cs => .c (.fp cs 0)
  | .func f => some (.c (.fn (.func f) [] []))

def lkOf (t : TypeId) : Option Lk :=
  match E.P.underlying t, E.P.info? t with
  | some (.struct _), some i => some (.many i.size)
  | some (.array _ _), some i => some (.many i.size)
  | some _, some i => if i.size = 1 then some .one else none
  | _, _ => none

def szOf (t : TypeId) : Option Nat := (E.P.info? t).map (·.size)
def byOf (t : TypeId) : Option Nat := (E.P.info? t).map (·.bytes)
def zeroOf (t : TypeId) : Option V := ((E.P.info? t).bind (·.zero)).bind constV

/-- A type's zero value, of its size. -/
def zeroV (t : TypeId) : Option V :=
  match zeroOf E t, szOf E t with
  | some z, some n => if Zdp z = false ∧ (Zbt z).length = n then some z else none
  | _, _ => none

def lowL (l : Array Operand) : Option (List Rd) := mapO (lowR E) l.toList

def lowO : Option Operand → Option (Option Rd)
  | none => some none
  | some x => (lowR E x).map some

/-- Do fields lie one behind another, and is each one's equality told by its cells alone? The kinds of the cells. -/
def plainFields (P : Program) (ok : TypeId → Option (List Kk)) : List Field → Nat → Option (List Kk)
  | [], _ => some []
  | f :: r, o => if f.name = "_" ∨ f.offset ≠ o then none else
    match ok f.type with
    | some l => (plainFields P ok r (o + l.length)).map (l ++ ·)
    | none => none

/-- The kinds of a type's cells, if its equality is told by them alone. -/
def plainEq (P : Program) : Nat → TypeId → Option (List Kk)
  | 0, _ => none
  | n + 1, t =>
    match P.info? t with
    | none => none
    | some i =>
    match P.underlying t with
    | some .bool => if i.size = 1 then some [.b] else none
    | some (.int _) => if i.size = 1 then some [.i] else none
    | some .string => if i.size = 1 then some [.s] else none
    | some (.struct fs) => if P.stoodInHeld t then none else match plainFields P (plainEq P n) fs.toList 0 with
      | some k => if k.length = i.size then some k else none
      | none => none
    | _ => none

def lowEq (t : TypeId) (neg : Bool) (x y : Operand) (rx ry : Rd) : Option Iop :=
  match E.P.underlying t with
  | some (.int _) | some .string => some (.bin (if neg then .neq else .eql) rx ry)
  | some .bool => some (.eqx .b neg rx ry)
  | some (.slice _) => some (.eqx .sl neg rx ry)
  | some (.map ..) => some (.eqx .m neg rx ry)
  | some (.func ..) => some (.eqx .f neg rx ry)
  | some (.pointer e) => match szOf E e with
    | some (_ + 1) => some (.eqp neg rx ry)
    | _ => none
  | some (.struct _) => if (E.P.eqGuardType E.P.depth t) then none else (plainEq E.P 20 t).map fun n => .eqs n neg rx ry
  | some (.interface _) => if (match x with | .const .nilIface => true | _ => false) || (match y with | .const .nilIface => true | _ => false) then some (.eqx .ifc neg rx ry) else none
  | _ => none

def keyKind (t : TypeId) : Option Kk :=
  match E.P.underlying t with
  | some .bool => some .b
  | some (.int _) => some .i
  | some .string => some .s
  | _ => none

def lowParts (size : Nat → Option (Nat × Nat)) : List (Nat × Operand) → Option (List (Nat × Nat × Rd))
  | [] => some []
  | (i, x) :: r => do
    let (o, n) ← size i
    let x ← lowR E x
    let r ← lowParts size r
    pure ((o, n, x) :: r)

def prims : List (String × Prim) :=
  [("internal/bytealg.IndexByteString", .indexByte), ("internal/bytealg.IndexString", .indexStr), ("internal/bytealg.CountString", .countStr), ("internal/abi.NoEscape", .noEscape), ("internal/bytealg.abigen_runtime_cmpstring", .cmpStr)]

def elemOfSl (t : TypeId) : Option TypeId :=
  match E.P.underlying t with
  | some (.slice e) => some e
  | _ => none

def lowBuiltin (b : Builtin) (ts : Array TypeId) (ty : TypeId) (args : Array Operand) : Option Iop := do
  let as ← lowL E args
  let t0 ← ts[0]?
  match b, as with
  | .len, [x] =>
    match E.P.underlying t0 with
    | some .string => pure (.slen x)
    | some (.slice _) => pure (.len x)
    | some (.map ..) => pure (.mlen x)
    | some (.array n _) => pure (.mov (.c (.int .i64 n)))
    | some (.pointer a) => match E.P.underlying a with
      | some (.array n _) => pure (.mov (.c (.int .i64 n)))
      | _ => none
    | _ => none
  | .cap, [x] => match E.P.underlying t0 with
    | some (.slice _) => pure (.cap x)
    | _ => none
  | .append, [s, x] => do
    let e ← elemOfSl E t0
    let es ← szOf E e
    let by_ ← byOf E e
    let _ ← zeroV E e
    let t1 ← ts[1]?
    match E.P.underlying t1 with
    | some (.slice _) => pure (.append e es by_ s x)
    | some .string => pure (.append e es by_ s x)
    | _ => none
  | .copy, [d, s] => do
    let e ← elemOfSl E t0
    let es ← szOf E e
    if es = 0 then none else pure (.copy es d s)
  | .clear, [x] => do
    let e ← elemOfSl E t0
    pure (.clear (← szOf E e) (Zbt (← zeroV E e)) x)
  | .min, xs => pure (.min xs)
  | .max, xs => pure (.max xs)
  | .unsafeSliceData, [x] => pure (.sdata x)
  | .unsafeString, [x, n] => match E.P.underlying t0 with
    | some (.pointer e) => if E.P.cellsOf e = 1 then pure (.ustr e x n) else none
    | _ => none
  | .delete, [m, k] => match E.P.underlying t0 with
    | some (.map kt _) => (keyKind E kt).map fun kk => .del kk m k
    | _ => none
  | .panic, [x] => pure (.panic x)
  | _, _ => none

def lowOp (ty : TypeId) : Op → Option Iop
  | .move x | .assign x => (lowR E x).map .mov
  | .pick c a b => do pure (.pick (← lowR E c) (← lowR E a) (← lowR E b))
  | .alloc t => (zeroV E t).map fun v => .alloc t (Zbt v)
  | .box t x => (lowR E x).map (.box t)
  | .build t ps => do
    let z := Zbt (← zeroV E t)
    match E.P.underlying t with
    | some (.struct fs) => if fs.toList.any (fun f => (szOf E f.type).isNone) then none else do
      let l ← lowParts E (fun i => (fs[i]?).bind fun f => (szOf E f.type).map fun s => (f.offset, s)) ps.toList
      pure (.build z l)
    | some (.array _ e) => do
      let s ← szOf E e
      pure (.build z (← lowParts E (fun i => some (i * s, s)) ps.toList))
    | _ => none
  | .buildSlice t n ps => do
    let e ← elemOfSl E t
    let s ← szOf E e
    if n * s > 16777216 ∨ s = 0 then none else
    pure (.mkslice e s n (Zbt (← zeroV E e)) (← lowParts E (fun i => some (i * s, s)) ps.toList))
  | .load t a => do pure (.load (← lkOf E t) (← lowR E a))
  | .store t a x => do pure (.store (← szOf E t) (← lowR E a) (← lowR E x))
  | .nilCheck x => (lowR E x).map .nilck
  | .binOp o t x y _ => do
    let rx ← lowR E x
    let ry ← lowR E y
    match o with
    | .eql => lowEq E t false x y rx ry
    | .neq => lowEq E t true x y rx ry
    | o => pure (.bin o rx ry)
  | .unOp o _ x => (lowR E x).map (.un o)
  | .convert s d x => do
    let x ← lowR E x
    match E.P.underlying s, E.P.underlying d with
    | some (.int _), some (.int k) => pure (.conv (.int k) x)
    | some .string, some .string => pure (.conv .same x)
    | some (.int _), some .string => pure (.conv .intStr x)
    | some .string, some (.slice e) => match E.P.underlying e with
      | some (.int .u8) => pure (.conv (.strBytes e) x)
      | _ => none
    | some (.slice e), some .string => match E.P.underlying e with
      | some (.int .u8) => pure (.conv .bytesStr x)
      | _ => none
    | some .unsafePointer, some (.pointer u) => match szOf E u with
      | some (n + 1) => if E.P.cellsOf u = n + 1 then pure (.conv (.ofUnsafe u (n + 1)) x) else none
      | _ => none
    | some (.pointer u), some .unsafePointer => match szOf E u with
      | some (_ + 1) => pure (.conv .toUnsafe x)
      | _ => none
    | _, _ => none
  | .makeInterface t x => match E.P.underlying t with
    | some (.interface _) => none
    | some _ => (lowR E x).map (.iface t)
    | none => none
  | .makeFunc (.func f) a c => do pure (.mkfn (.func f) (← lowL E a) (← lowL E c))
  | .makeMap t none => match E.P.underlying t with
    | some (.map ..) => some .mkmap
    | _ => none
  | .makeSlice t l c => do
    let e ← elemOfSl E t
    let s ← szOf E e
    if s = 0 then none else
    pure (.makesl e s (← byOf E e) (Zbt (← zeroV E e)) (← lowR E l) (← lowR E c))
  | .slice t x l h m => do
    let x ← lowR E x
    let l ← lowO E l
    let h ← lowO E h
    let m ← lowO E m
    match E.P.underlying t with
    | some .string => pure (.slice .str x l h m)
    | some (.slice e) => do pure (.slice (.sl (← szOf E e)) x l h m)
    | some (.array n e) => do pure (.slicea n (← szOf E e) x l h m)
    | some (.pointer p) => match E.P.underlying p with
      | some (.array n e) => do pure (.slicea n (← szOf E e) x l h m)
      | _ => none
    | _ => none
  | .fieldAddr t x f => match E.P.underlying t with
    | some (.struct fs) => do
      let f ← fs[f]?
      let n ← szOf E f.type
      if n = 0 then none else pure (.off f.offset (← lowR E x))
    | _ => none
  | .field t x f => match E.P.underlying t with
    | some (.struct fs) => do
      let f ← fs[f]?
      pure (.fld f.offset (← lkOf E f.type) (← lowR E x))
    | _ => none
  | .indexAddr t x i => do
    let x ← lowR E x
    let i ← lowR E i
    match E.P.underlying t with
    | some (.slice e) => do pure (.ixaddr (.sl (← szOf E e)) x i)
    | some (.array n e) => do pure (.ixaddr (.arr n (← szOf E e)) x i)
    | _ => none
  | .index t x i => do
    let x ← lowR E x
    let i ← lowR E i
    match E.P.underlying t with
    | some .string => pure (.idx .str .one x i)
    | some (.array n e) => do pure (.idx (.arr n (← szOf E e)) (← lkOf E e) x i)
    | _ => none
  | .lookup t x i ok => match E.P.underlying t with
    | some (.map k e) => do
      pure (.look (← keyKind E k) (← zeroV E e) (← lowR E x) (← lowR E i) ok)
    | _ => none
  | .mapUpdate t m k v | .insert t m k v => match E.P.underlying t with
    | some (.map kt _) => do
      pure (.mapup (← keyKind E kt) (← lowR E m) (← lowR E k) (← lowR E v))
    | _ => none
  | .range t x => match E.P.underlying t with
    | some .string => (lowR E x).map .range
    | _ => none
  | .next it true => (lowR E it).map .next
  | .typeAssert x _ a ok => match E.P.underlying a with
    | some (.interface _) => none
    | some _ => do pure (.assert a (← zeroV E a) (← lowR E x) ok)
    | none => none
  | .extract x i => do pure (.ext (← lowR E x) i)
  | .panic x => (lowR E x).map .panic
  | .call c => match c.callee with
    | .builtin b => lowBuiltin E b c.argTypes ty c.args
    | .value (.func f) => do pure (.call f (← lowL E c.args))
    | .value x => do pure (.callv (← lowR E x) (← lowL E c.args))
    | .invoke .. => none
  | _ => none

/-! ### regions whose order is open -/
inductive Cl where
  | p | a | l | q | w
  deriving DecidableEq, Repr

def clOf (o : Iop) : Cl :=
  match o with
  | .alloc .. | .box .. | .mkslice .. | .mkmap | .makesl .. | .range _ => .a
  | .conv (.strBytes _) _ => .a
  | .conv .bytesStr _ | .conv .toUnsafe _ | .conv (.ofUnsafe ..) _ | .look .. | .mlen _ | .eqp .. | .slicea .. => .q
  | .load .. => .l
  | .store .. | .mapup .. | .next _ | .append .. | .appendz .. | .copy .. | .clear .. | .ustr .. | .del .. | .callv .. | .panic _ => .w
  | .call f _ => if E.quiet f then .q else .w
  | _ => .p

/-- All that is ordered ahead of each operation, as bits. -/
def aheads (ops : List Oper) : List Nat :=
  ops.foldl (fun acc o => acc ++ [o.after.toList.foldl (fun s e => if Region.binds .any e then s ||| 2 ^ e.on ||| acc.getD e.on 0 else s) 0]) []

/-- The places (in an order) of what comes ahead of each operation of that order. -/
def preOf (ops : List Oper) (order : List Nat) : List (List Nat) :=
  order.map fun i => match ops[i]? with
    | some o => (o.after.toList.filter (Region.binds .any)).map fun e => order.idxOf e.on
    | none => []

def aheadsP (pre : List (List Nat)) : List Nat :=
  pre.foldl (fun acc es => acc ++ [es.foldl (fun s e => s ||| 2 ^ e ||| acc.getD e 0) 0]) []

/-- All operands of an operation. -/
def Iop.rds : Iop → List Rd
  | .mov x | .box _ x | .load _ x | .nilck x | .un _ x | .conv _ x | .iface _ x | .off _ x | .fld _ _ x | .range x | .next x | .assert _ _ x _ | .ext x _ | .len x | .slen x | .mlen x | .cap x | .clear _ _ x | .sdata x | .panic x => [x]
  | .pick c a b => [c, a, b]
  | .build _ ps | .mkslice _ _ _ _ ps => ps.map (·.2.2)
  | .store _ a x | .bin _ a x | .eqs _ _ a x | .eqx _ _ a x | .eqp _ a x | .makesl _ _ _ _ a x | .ixaddr _ a x | .idx _ _ a x | .look _ _ a x _ | .append _ _ _ a x | .appendz _ _ _ _ a x | .copy _ a x | .ustr _ a x | .del _ a x => [a, x]
  | .mapup _ m k v => [m, k, v]
  | .mkfn _ a c => a ++ c
  | .slice _ x l h m | .slicea _ _ x l h m => x :: (l.toList ++ h.toList ++ m.toList)
  | .min xs | .max xs | .call _ xs => xs
  | .callv x xs => x :: xs
  | .alloc .. | .mkmap | .bad => []

def rdT : Rd → Option Nat
  | .t n => some n
  | .c _ => none

/-- All slots that an operation reads. -/
def Ins.reads (i : Ins) : List Nat := (match i.guard with | some (g, _) => [g] | none => []) ++ i.op.rds.filterMap rdT

def Cl.spine : Cl → Bool
  | .p | .l => false
  | _ => true

/-- Is it an order of n things? -/
def orderOk (n : Nat) (order : List Nat) : Bool := order.length == n && decide order.Nodup && order.all (fun i => decide (i < n)) && (List.range n).all (fun i => order.contains i)

/-- Are the bits right: each tells of an operation that is ordered ahead? Does each edge go back? -/
def ahOk (pre : List (List Nat)) (ah : List Nat) : Bool :=
  (List.range pre.length).all fun j => (pre.getD j []).all (fun e => decide (e < j)) &&
    (List.range pre.length).all fun i => !(ah.getD j 0).testBit i || (pre.getD j []).any fun e => e == i || (ah.getD e 0).testBit i

/-- What each operation reads is written ahead of it or behind it, never open; no slot is written twice. -/
def readsOk (ops : List Ins) (ah : List Nat) : Bool :=
  (List.range ops.length).all fun j => (List.range ops.length).all fun i => match ops[i]?, ops[j]? with
    | some p, some q => match p.dst with
      | some d => (!q.reads.contains d || (if i < j then (ah.getD j 0).testBit i else i == j || (ah.getD i 0).testBit j)) && (i == j || q.dst != some d)
      | none => true
    | _, _ => true

/-- Is operation j ordered with all of the spine? -/
def isFixed (spine : List Bool) (ah : List Nat) (j : Nat) : Bool :=
  (List.range spine.length).all fun i => !spine.getD i false || i == j || (ah.getD j 0).testBit i || (ah.getD i 0).testBit j

def isNew : Iop → Bool
  | .alloc .. | .box .. | .mkslice .. => true
  | _ => false

/-- The calls of quiet functions that are not ordered with all of the rest of the spine float; so does what makes an object and looks at none. -/
def mdsOf (E : Env) (ops : List Ins) (ah : List Nat) : List Md :=
  let spine := ops.map fun o => (clOf E o.op).spine
  (ops.zipIdx).map fun (o, j) => if (clOf E o.op).spine = false then .free else
    if isFixed spine ah j then .spine else
    if isNew o.op then .alo else
    match o.op with
    | .call f _ => if E.quiet f then .call else .spine
    | _ => .spine

/-- Operations that touch memory, loads apart, come in the order in which they stand; what has been made ahead of one of them is ordered ahead of it. -/
def drawOk (mds : List Md) (ah : List Nat) : Bool :=
  (List.range mds.length).all fun j => (List.range j).all fun i => (ah.getD j 0).testBit i || !((mds.getD i .free == .spine || mds.getD i .free == .alo) && mds.getD j .free == .spine)

/-- Is what operation j reads written by none from j on? -/
def steady (ops : List Ins) (j : Nat) (q : Ins) : Bool :=
  (ops.drop j).all fun p => match p.dst with
    | some d => !q.reads.contains d
    | none => true

/-- How many of the spine come ahead of operation j at least; and at most. -/
def loOf (mds : List Md) (ah : List Nat) (j : Nat) : Nat := ((List.range mds.length).filter fun i => mds.getD i .free == .spine && (ah.getD j 0).testBit i).length
def hiOf (mds : List Md) (ah : List Nat) (j : Nat) : Nat := ((List.range mds.length).filter fun i => mds.getD i .free == .spine && !(ah.getD i 0).testBit j).length

/-- Is operation j to be told anew? -/
def toldAgain (mds : List Md) (ah : List Nat) (j : Nat) : Bool := mds.any (· == .alo) || loOf mds ah j != hiOf mds ah j

/-- What is to be told anew of operation j. -/
def floatOf (mds : List Md) (o : Ins) (j : Nat) : Option Float :=
  match o.op, mds.getD j .free with
  | .load k a, .free => some (.load k a)
  | .call _ args, .call => some (.call args)
  | _, _ => none

/-- Do all operations that are to be told anew read what is not written later? Are those that float of such a kind? -/
def floatsOk (E : Env) (mds : List Md) (ah : List Nat) (ops : List Ins) : Bool :=
  (ops.zipIdx).all fun (o, j) =>
    ((floatOf mds o j).isNone || !toldAgain mds ah j || (steady ops j o && o.dst.isSome)) &&
    match mds.getD j .free with
    | .free => clOf E o.op == .p || clOf E o.op == .l
    | .call => (match o.op with | .call f _ => E.quiet f | _ => false)
    | .alo => isNew o.op
    | .spine => true

def chksOf (mds : List Md) (ah : List Nat) (ops : List Ins) : List Chk :=
  (ops.zipIdx).filterMap fun (o, j) => match floatOf mds o j with
    | some w => if toldAgain mds ah j then some { dst := o.dst.getD 0, guard := o.guard, what := w, lo := loOf mds ah j, hi := hiOf mds ah j } else none
    | none => none

/-- The order in which a region is told: what makes an object comes as late as may be. -/
def canon (mds : List Md) (ah : List Nat) : List Nat :=
  let all := List.range mds.length
  if mds.any (· == .alo) then
    let acc := (all.filter fun j => mds.getD j .free == .spine).foldl (fun acc j => acc ++ (all.filter fun i => !acc.contains i && (ah.getD j 0).testBit i) ++ (if acc.contains j then [] else [j])) []
    acc ++ all.filter fun i => !acc.contains i
  else all

def isNewOp : Op → Bool
  | .alloc _ | .box .. | .buildSlice .. => true
  | _ => false

def newsOk (ops : List Oper) (order : List Nat) (mds : List Md) : Bool :=
  (List.range order.length).all fun a => mds.getD a .free != .alo || (ops[order.getD a 0]?).any fun o => isNewOp o.op

/-- A region whose order is open, in an order: the operations, how they stand, the bits. -/
def drawn (E : Env) (ops : List Oper) (l : List Ins) : Option (List (Ins × Md) × List Chk) :=
  let order := canon (mdsOf E l (aheads ops)) (aheads ops)
  let l := order.filterMap fun i => l[i]?
  let pre := preOf ops order
  let ah := aheadsP pre
  let mds := mdsOf E l ah
  if orderOk ops.length order && ahOk pre ah && readsOk l ah && drawOk mds ah && floatsOk E mds ah l && newsOk ops order mds then some (l.zip mds, chksOf mds ah l) else none

def lowG (ops : Array Oper) : Option (Nat × Bool) → Option (Option (Nat × Bool))
  | none => some none
  | some (j, b) => match (ops[j]?).bind (·.dst) with
    | some d => some (some (d, b))
    | none => none

def lowIns (ops : Array Oper) (o : Oper) : Option Ins :=
  match lowOp E o.type o.op with
  | some op => match lowG ops o.guard with
    | some g => some { dst := o.dst, op, guard := g }
    | none => none
  | none => none

def lowC : Code → IR
  | .skip => .skip
  | .label _ => .skip
  | .region _ ops draw =>
    match mapO (lowIns E ops) ops.toList with
    | some l =>
      if draw then
        match drawn E ops.toList l with
        | some (x, chks) => .regd x chks
        | none => .bad
      else .reg l
    | none => .bad
  | .seq a b => .seq (lowC a) (lowC b)
  | .cond c a b => match lowR E c with
    | some c => .cond c (lowC a) (lowC b)
    | none => .bad
  | .block id b => .block id (lowC b)
  | .loop b => .loop (lowC b)
  | .rangeFunc f ps a b => match lowR E f with
    | some f => .rfun f ps.toList (lowC a) (lowC b)
    | none => .bad
  | .exit id => .exit id
  | .scope b => .scope (lowC b)
  | .ret => .ret
  | .goto _ | .refuse _ => .bad

def lowRes : ResultVar → Option Rv
  | .tmp t => some (.tmp t)
  | .cell a t => (lkOf E t).map (.cell a)

def lowF (f : FuncId) (fn : Func) : Option Fun :=
  match fn.body with
  | some c => do
    let rs ← mapO (lowRes E) fn.results.toList
    pure (.code fn.ntmps rs (E.quiet f) (lowC E c))
  | none =>
    if fn.name = "internal/bytealg.MakeNoZero" then
      match fn.resultTypes.toList with
      | [t] => (elemOfSl E t).map fun e => .prim (.makeNoZero e)
      | _ => none
    else (prims.lookup fn.name).map .prim

end Go.Ev
/- What it means that the evaluator's values and heap stand for the machine's. -/
namespace Go.Ev
open Go

/-- Where an object lies: cells from cell o of block b on, of age g; or a block that is no cells. -/
inductive Ent where
  | cl (b o g : Nat)
  | ob (b : Nat)

def Ent.blk : Ent → Nat
  | .cl b _ _ => b
  | .ob b => b

structure Ctx where
  w : World
  ρ : Nat → Option Ent
  Fz : Nat → Prop

def plainC : Value → Prop
  | .agg _ => False
  | .tuple _ => False
  | _ => True

def FnRel (ρ : Nat → Option Ent) : Fn → Fn → Prop
  | .func f, g => g = .func f
  | .yield l, g => ∃ b, ρ l = some (.ob b) ∧ g = .yield b
  | _, _ => False

mutual
def VRel (X : Ctx) : V → Value → Prop
  | .bool b, c => c = .bool b
  | .int k n, c => c = .int k n
  | .str s, c => c = .string ⟨s.toArray⟩
  | .vec isNil cap rows, c => ∃ a ccap, c = .slice a rows.length ccap ∧ rows.length ≤ ccap ∧ (∀ k, cap = some k → ccap = k) ∧ (∃ es, ∀ r ∈ rows, r.length = es) ∧
      (isNil = true → a = none ∧ ccap = 0) ∧ (isNil = false → ∃ b o ad, a = some ad ∧ (rows ≠ [] → ad = ⟨b, o, none⟩) ∧ RRel X rows b o)
  | .own id gen off len es cap, c => ∃ b o g ad ccap, X.ρ id = some (.cl b o g) ∧ gen ≤ g ∧ c = .slice (some ad) len ccap ∧ len ≤ ccap ∧ (∀ k, cap = some k → ccap = k) ∧
      (gen = g → (0 < ccap → ad = ⟨b, o + off, none⟩) ∧ ∃ arr el fr, X.w.heap[b]? = some (.cells arr el fr) ∧ o + off + ccap * es ≤ arr.size)
  | .nilp, c => c = .pointer none
  | .ptr id gen off, c => ∃ b o g ad, X.ρ id = some (.cl b o g) ∧ gen ≤ g ∧ c = .pointer (some ad) ∧ (gen = g → ad = ⟨b, o + off, none⟩)
  | .fp cells off, c => ∃ b o, c = .pointer (some ⟨b, o + off, none⟩) ∧ CRel X cells b o
  | .nilf, c => c = .nilFunc
  | .fn f first cap, c => ∃ g cf cc, c = .func g ⟨cf⟩ ⟨cc⟩ ∧ FnRel X.ρ f g ∧ LRel X first cf ∧ LRel X cap cc
  | .nilm, c => c = .map none
  | .map id, c => ∃ b, X.ρ id = some (.ob b) ∧ c = .map (some b)
  | .it id, c => ∃ b, X.ρ id = some (.ob b) ∧ c = .pointer (some ⟨b, 0, none⟩)
  | .nili, c => c = .nilIface
  | .iface t v, c => ∃ c', c = .iface t c' ∧ VRel X v c'
  | .agg cs, c => ∃ l, c = .agg ⟨l⟩ ∧ LRel X cs l ∧ ∀ x ∈ l, plainC x
  | .tup vs, c => ∃ l, c = .tuple ⟨l⟩ ∧ LRel X vs l
def LRel (X : Ctx) : List V → List Value → Prop
  | [], l => l = []
  | v :: vs, l => ∃ c r, l = c :: r ∧ VRel X v c ∧ LRel X vs r
/-- Cells that nobody writes hold these values. -/
def CRel (X : Ctx) : List V → Nat → Nat → Prop
  | [], _, _ => True
  | v :: vs, b, o => (X.Fz b ∧ ∃ c, X.w.cell? ⟨b, o, none⟩ = some c ∧ plainC c ∧ VRel X v c) ∧ CRel X vs b (o + 1)
def RRel (X : Ctx) : List (List V) → Nat → Nat → Prop
  | [], _, _ => True
  | r :: rs, b, o => CRel X r b o ∧ RRel X rs b (o + r.length)
end

/-- What goes on from one state to a later one. -/
structure Le (X Y : Ctx) : Prop where
  fz : ∀ b, X.Fz b → Y.Fz b
  cell : ∀ b o c, X.Fz b → X.w.cell? ⟨b, o, none⟩ = some c → Y.w.cell? ⟨b, o, none⟩ = some c
  ob : ∀ i b, X.ρ i = some (.ob b) → Y.ρ i = some (.ob b)
  cl : ∀ i b o g, X.ρ i = some (.cl b o g) → ∃ b' o' g', Y.ρ i = some (.cl b' o' g') ∧ g ≤ g' ∧ (g = g' → b = b' ∧ o = o')
  blk : ∀ i b o g arr el fr, X.ρ i = some (.cl b o g) → Y.ρ i = some (.cl b o g) → X.w.heap[b]? = some (.cells arr el fr) →
    ∃ arr' el' fr', Y.w.heap[b]? = some (.cells arr' el' fr') ∧ arr.size ≤ arr'.size

theorem Le.refl (X : Ctx) : Le X X :=
  ⟨fun _ h => h, fun _ _ _ _ h => h, fun _ _ h => h, fun _ b o g h => ⟨b, o, g, h, Nat.le_refl _, fun _ => ⟨rfl, rfl⟩⟩,
   fun _ _ _ _ arr el fr _ _ h => ⟨arr, el, fr, h, Nat.le_refl _⟩⟩

theorem Le.trans {X Y Z : Ctx} (h : Le X Y) (k : Le Y Z) : Le X Z := by
  refine ⟨fun b hb => k.fz b (h.fz b hb), fun b o c hb hc => k.cell b o c (h.fz b hb) (h.cell b o c hb hc), fun i b hi => k.ob i b (h.ob i b hi), ?_, ?_⟩
  · intro i b o g hi
    obtain ⟨b1, o1, g1, h1, hg1, he1⟩ := h.cl i b o g hi
    obtain ⟨b2, o2, g2, h2, hg2, he2⟩ := k.cl i b1 o1 g1 h1
    refine ⟨b2, o2, g2, h2, Nat.le_trans hg1 hg2, fun e => ?_⟩
    have e1 : g = g1 := by omega
    have e2 : g1 = g2 := by omega
    obtain ⟨rfl, rfl⟩ := he1 e1
    exact he2 e2
  · intro i b o g arr el fr hi hz hb
    obtain ⟨b1, o1, g1, h1, hg1, he1⟩ := h.cl i b o g hi
    obtain ⟨b2, o2, g2, h2, hg2, he2⟩ := k.cl i b1 o1 g1 h1
    rw [hz] at h2
    injection h2 with h2
    injection h2 with e1 e2 e3
    subst e1 e2 e3
    have e1 : g = g1 := by omega
    obtain ⟨rfl, rfl⟩ := he1 e1
    subst e1
    obtain ⟨arr1, el1, fr1, ha, hs⟩ := h.blk i b o g arr el fr hi h1 hb
    obtain ⟨arr2, el2, fr2, ha2, hs2⟩ := k.blk i b o g arr1 el1 fr1 h1 hz ha
    exact ⟨arr2, el2, fr2, ha2, Nat.le_trans hs hs2⟩

theorem FnRel.le {X Y : Ctx} (h : Le X Y) {f g : Fn} (hf : FnRel X.ρ f g) : FnRel Y.ρ f g := by
  cases f with
  | func f => exact hf
  | yield l => obtain ⟨b, hb, e⟩ := hf; exact ⟨b, h.ob _ _ hb, e⟩
  | method _ => exact hf
  | methodOf _ _ => exact hf
  | via _ _ _ _ => exact hf

mutual
theorem VRel.le {X Y : Ctx} (h : Le X Y) : ∀ (v : V) {c : Value}, VRel X v c → VRel Y v c
  | .bool _, _, hv => hv
  | .int _ _, _, hv => hv
  | .str _, _, hv => hv
  | .nilp, _, hv => hv
  | .nilf, _, hv => hv
  | .nilm, _, hv => hv
  | .nili, _, hv => hv
  | .vec _ _ rows, _, hv => by
    unfold VRel at hv ⊢
    obtain ⟨a, cc, e, h1, h2, hes, h3, h4⟩ := hv
    exact ⟨a, cc, e, h1, h2, hes, h3, fun hn => let ⟨b, o, ad, e1, e2, hr⟩ := h4 hn; ⟨b, o, ad, e1, e2, RRel.le h rows hr⟩⟩
  | .own id gen off len es cap, _, hv => by
    unfold VRel at hv ⊢
    obtain ⟨b, o, g, ad, cc, hr, hg, e, h1, h2, h3⟩ := hv
    obtain ⟨b', o', g', hr', hg', he⟩ := h.cl id b o g hr
    refine ⟨b', o', g', ad, cc, hr', Nat.le_trans hg hg', e, h1, h2, fun eg => ?_⟩
    have e1 : gen = g := by omega
    have e2 : g = g' := by omega
    obtain ⟨rfl, rfl⟩ := he e2
    obtain ⟨h3, arr, el, fr, hb, hs⟩ := h3 e1
    subst e2
    obtain ⟨arr', el', fr', hb', hs'⟩ := h.blk id b o g arr el fr hr hr' hb
    exact ⟨h3, arr', el', fr', hb', by omega⟩
  | .ptr id gen off, _, hv => by
    unfold VRel at hv ⊢
    obtain ⟨b, o, g, ad, hr, hg, e, h3⟩ := hv
    obtain ⟨b', o', g', hr', hg', he⟩ := h.cl id b o g hr
    refine ⟨b', o', g', ad, hr', Nat.le_trans hg hg', e, fun eg => ?_⟩
    have e1 : gen = g := by omega
    have e2 : g = g' := by omega
    obtain ⟨rfl, rfl⟩ := he e2
    exact h3 e1
  | .fp cells off, _, hv => by
    unfold VRel at hv ⊢
    obtain ⟨b, o, e, hc⟩ := hv
    exact ⟨b, o, e, CRel.le h cells hc⟩
  | .fn f first cap, _, hv => by
    unfold VRel at hv ⊢
    obtain ⟨g, cf, cc, e, hf, h1, h2⟩ := hv
    exact ⟨g, cf, cc, e, hf.le h, LRel.le h first h1, LRel.le h cap h2⟩
  | .map id, _, hv => by
    unfold VRel at hv ⊢
    obtain ⟨b, hr, e⟩ := hv
    exact ⟨b, h.ob _ _ hr, e⟩
  | .it id, _, hv => by
    unfold VRel at hv ⊢
    obtain ⟨b, hr, e⟩ := hv
    exact ⟨b, h.ob _ _ hr, e⟩
  | .iface t v, _, hv => by
    unfold VRel at hv ⊢
    obtain ⟨c', e, hr⟩ := hv
    exact ⟨c', e, VRel.le h v hr⟩
  | .agg cs, _, hv => by
    unfold VRel at hv ⊢
    obtain ⟨l, e, hr, hp⟩ := hv
    exact ⟨l, e, LRel.le h cs hr, hp⟩
  | .tup cs, _, hv => by
    unfold VRel at hv ⊢
    obtain ⟨l, e, hr⟩ := hv
    exact ⟨l, e, LRel.le h cs hr⟩
theorem LRel.le {X Y : Ctx} (h : Le X Y) : ∀ (l : List V) {cs : List Value}, LRel X l cs → LRel Y l cs
  | [], _, hv => hv
  | v :: vs, _, hv => by
    unfold LRel at hv ⊢
    obtain ⟨c, r, e, h1, h2⟩ := hv
    exact ⟨c, r, e, VRel.le h v h1, LRel.le h vs h2⟩
theorem CRel.le {X Y : Ctx} (h : Le X Y) : ∀ (l : List V) {b o : Nat}, CRel X l b o → CRel Y l b o
  | [], _, _, _ => by unfold CRel; trivial
  | v :: vs, _, _, hv => by
    unfold CRel at hv ⊢
    obtain ⟨⟨hf, c, hc, hp, hr⟩, h2⟩ := hv
    exact ⟨⟨h.fz _ hf, c, h.cell _ _ _ hf hc, hp, VRel.le h v hr⟩, CRel.le h vs h2⟩
theorem RRel.le {X Y : Ctx} (h : Le X Y) : ∀ (l : List (List V)) {b o : Nat}, RRel X l b o → RRel Y l b o
  | [], _, _, _ => by unfold RRel; trivial
  | v :: vs, _, _, hv => by
    unfold RRel at hv ⊢
    exact ⟨CRel.le h v hv.1, RRel.le h vs hv.2⟩
end

/-! ### lists of related values -/
theorem LRel.nil {X : Ctx} : LRel X [] [] := by unfold LRel; rfl
theorem LRel.cons {X : Ctx} {v : V} {c : Value} {l : List V} {r : List Value} (h : VRel X v c) (k : LRel X l r) : LRel X (v :: l) (c :: r) := by
  unfold LRel; exact ⟨c, r, rfl, h, k⟩
theorem LRel.cons_iff {X : Ctx} {v : V} {c : Value} {l : List V} {r : List Value} : LRel X (v :: l) (c :: r) ↔ VRel X v c ∧ LRel X l r := by
  rw [LRel]
  constructor
  · rintro ⟨c', r', e, h, k⟩
    cases e
    exact ⟨h, k⟩
  · rintro ⟨h, k⟩; exact ⟨c, r, rfl, h, k⟩
theorem LRel.nil_iff {X : Ctx} {r : List Value} : LRel X [] r ↔ r = [] := by rw [LRel]
theorem LRel.nil_right {X : Ctx} : ∀ {l : List V}, LRel X l [] → l = []
  | [], _ => rfl
  | _ :: _, h => by unfold LRel at h; obtain ⟨_, _, e, _⟩ := h; cases e

theorem LRel.length {X : Ctx} : ∀ {l : List V} {r : List Value}, LRel X l r → l.length = r.length
  | [], _, h => by rw [LRel.nil_iff.1 h]; rfl
  | _ :: _, _, h => by
    unfold LRel at h
    obtain ⟨c, r, rfl, _, k⟩ := h
    simp [LRel.length k]

theorem LRel.get {X : Ctx} : ∀ {l : List V} {r : List Value}, LRel X l r → ∀ (i : Nat) (v : V), l[i]? = some v → ∃ c, r[i]? = some c ∧ VRel X v c
  | [], _, _, i, v, h => by simp at h
  | x :: l, _, h, i, v, hv => by
    unfold LRel at h
    obtain ⟨c, r, rfl, h, k⟩ := h
    cases i with
    | zero => simp at hv; subst hv; exact ⟨c, by simp, h⟩
    | succ i => simp at hv; obtain ⟨c', h1, h2⟩ := LRel.get k i v hv; exact ⟨c', by simpa using h1, h2⟩

theorem LRel.append {X : Ctx} : ∀ {l l' : List V} {r r' : List Value}, LRel X l r → LRel X l' r' → LRel X (l ++ l') (r ++ r')
  | [], _, _, _, h, k => by rw [LRel.nil_iff.1 h]; exact k
  | _ :: _, _, _, _, h, k => by
    unfold LRel at h
    obtain ⟨c, r, rfl, h, h'⟩ := h
    exact LRel.cons h (LRel.append h' k)

theorem LRel.replicate {X : Ctx} {v : V} {c : Value} (h : VRel X v c) : ∀ n, LRel X (List.replicate n v) (List.replicate n c)
  | 0 => LRel.nil
  | n + 1 => by simp only [List.replicate_succ]; exact LRel.cons h (LRel.replicate h n)

theorem LRel.set {X : Ctx} : ∀ {l : List V} {r : List Value} (i : Nat) {v : V} {c : Value}, LRel X l r → VRel X v c → LRel X (l.set i v) (r.set i c)
  | [], _, _, _, _, h, _ => by rw [LRel.nil_iff.1 h]; exact LRel.nil
  | _ :: _, _, i, _, _, h, hv => by
    unfold LRel at h
    obtain ⟨c, r, rfl, h, k⟩ := h
    cases i with
    | zero => exact LRel.cons hv k
    | succ i => exact LRel.cons h (LRel.set i k hv)

theorem LRel.drop {X : Ctx} : ∀ {l : List V} {r : List Value} (n : Nat), LRel X l r → LRel X (l.drop n) (r.drop n)
  | [], _, n, h => by rw [LRel.nil_iff.1 h]; simp; exact LRel.nil
  | _ :: _, _, n, h => by
    have h' := h
    unfold LRel at h
    obtain ⟨c, r, rfl, h, k⟩ := h
    cases n with
    | zero => exact h'
    | succ n => simpa using LRel.drop n k

theorem LRel.take {X : Ctx} : ∀ {l : List V} {r : List Value} (n : Nat), LRel X l r → LRel X (l.take n) (r.take n)
  | [], _, n, h => by rw [LRel.nil_iff.1 h]; simp; exact LRel.nil
  | _ :: _, _, n, h => by
    unfold LRel at h
    obtain ⟨c, r, rfl, h, k⟩ := h
    cases n with
    | zero => simp; exact LRel.nil
    | succ n => simpa using LRel.cons h (LRel.take n k)

theorem undef_rel {X : Ctx} : VRel X undefV undef := by unfold VRel undefV; exact ⟨[], rfl, LRel.nil⟩

theorem LRel.getD {X : Ctx} {l : List V} {r : List Value} (h : LRel X l r) (i : Nat) : VRel X (l.getD i undefV) ((r.getD i undef)) := by
  rw [List.getD_eq_getElem?_getD, List.getD_eq_getElem?_getD]
  cases hi : l[i]? with
  | none =>
    have : r[i]? = none := by
      rw [List.getElem?_eq_none_iff] at hi ⊢
      rw [← h.length]; exact hi
    rw [this]; exact undef_rel
  | some v =>
    obtain ⟨c, hc, hv⟩ := h.get i v hi
    rw [hc]; exact hv

/-! ### cells -/
theorem CRel.get {X : Ctx} : ∀ {l : List V} {b o : Nat}, CRel X l b o → ∀ (i : Nat) (v : V), l[i]? = some v →
    X.Fz b ∧ ∃ c, X.w.cell? ⟨b, o + i, none⟩ = some c ∧ plainC c ∧ VRel X v c
  | [], _, _, _, i, v, h => by simp at h
  | x :: l, b, o, h, i, v, hv => by
    unfold CRel at h
    cases i with
    | zero => simp at hv; subst hv; exact h.1
    | succ i =>
      simp at hv
      have := CRel.get h.2 i v hv
      rw [show o + (i + 1) = o + 1 + i from by omega]
      exact this

theorem CRel.mk {X : Ctx} : ∀ {l : List V} {b o : Nat}, (∀ (i : Nat) (v : V), l[i]? = some v → X.Fz b ∧ ∃ c, X.w.cell? ⟨b, o + i, none⟩ = some c ∧ plainC c ∧ VRel X v c) → CRel X l b o
  | [], _, _, _ => by unfold CRel; trivial
  | x :: l, b, o, h => by
    unfold CRel
    refine ⟨h 0 x (by simp), CRel.mk fun i v hv => ?_⟩
    rw [show o + 1 + i = o + (i + 1) from by omega]
    exact h (i + 1) v (by simpa using hv)

theorem CRel.drop {X : Ctx} {l : List V} {b o : Nat} (h : CRel X l b o) (n : Nat) : CRel X (l.drop n) b (o + n) :=
  CRel.mk fun i v hv => by
    rw [List.getElem?_drop] at hv
    rw [Nat.add_assoc]
    exact h.get _ v hv

theorem CRel.take {X : Ctx} {l : List V} {b o : Nat} (h : CRel X l b o) (n : Nat) : CRel X (l.take n) b o :=
  CRel.mk fun i v hv => by
    rw [List.getElem?_take] at hv
    split at hv
    · exact h.get _ v hv
    · cases hv

theorem CRel.append {X : Ctx} : ∀ {l l' : List V} {b o : Nat}, CRel X l b o → CRel X l' b (o + l.length) → CRel X (l ++ l') b o
  | [], _, _, _, _, k => k
  | x :: l, l', b, o, h, k => by
    unfold CRel at h
    rw [List.cons_append]
    unfold CRel
    exact ⟨h.1, CRel.append h.2 (by rw [show o + 1 + l.length = o + (x :: l).length from by simp; omega]; exact k)⟩

theorem RRel.flat {X : Ctx} : ∀ {rows : List (List V)} {b o : Nat}, RRel X rows b o → CRel X rows.flatten b o
  | [], _, _, _ => by unfold CRel; trivial
  | r :: rs, b, o, h => by
    unfold RRel at h
    rw [List.flatten_cons]
    exact h.1.append (RRel.flat h.2)

theorem RRel.of_flat {X : Ctx} : ∀ {rows : List (List V)} {b o : Nat}, CRel X rows.flatten b o → RRel X rows b o
  | [], _, _, _ => by unfold RRel; trivial
  | r :: rs, b, o, h => by
    rw [List.flatten_cons] at h
    unfold RRel
    constructor
    · have := h.take r.length
      rwa [List.take_left'] at this
      rfl
    · refine RRel.of_flat ?_
      have := h.drop r.length
      rwa [List.drop_left'] at this
      rfl

theorem flatten_len {es : Nat} : ∀ {rows : List (List V)}, (∀ r ∈ rows, r.length = es) → rows.flatten.length = rows.length * es
  | [], _ => by simp
  | r :: rs, h => by
    rw [List.flatten_cons, List.length_append, h r (by simp), flatten_len (fun r hr => h r (by simp [hr])), List.length_cons, Nat.add_mul]
    omega

/-- Row i of rows of one length. -/
theorem RRel.row {X : Ctx} {es : Nat} (i : Nat) : ∀ {rows : List (List V)} {b o : Nat}, RRel X rows b o → (∀ (j : Nat) (r : List V), j < i → rows[j]? = some r → r.length = es) → ∀ r, rows[i]? = some r → CRel X r b (o + i * es) := by
  induction i with
  | zero =>
    intro rows b o h _ r hr
    cases rows with
    | nil => simp at hr
    | cons x rs => simp at hr; subst hr; unfold RRel at h; simpa using h.1
  | succ i ih =>
    intro rows b o h hes r hr
    cases rows with
    | nil => simp at hr
    | cons x rs =>
      unfold RRel at h
      simp at hr
      have hx := hes 0 x (by omega) (by simp)
      have := ih h.2 (fun j r hj hr => hes (j + 1) r (by omega) (by simpa using hr)) r hr
      rw [hx] at this
      rw [show o + (i + 1) * es = o + es + i * es from by rw [Nat.add_mul]; omega]
      exact this

theorem rowsOk_all {es : Nat} {rows : List (List V)} (h : ∃ n, ∀ r ∈ rows, r.length = n) (hk : rowsOk es rows = true) : ∀ r ∈ rows, r.length = es := by
  obtain ⟨n, hn⟩ := h
  cases rows with
  | nil => intro r hr; cases hr
  | cons x xs =>
    have h1 : x.length = es := by simpa [rowsOk] using hk
    have h2 := hn x (by simp)
    intro r hr
    rw [hn r hr, ← h2, h1]

/-! ### states -/
def ERel (X : Ctx) : List (V × V) → List MapEntry → Prop
  | [], l => l = []
  | (k, v) :: r, l => ∃ e l', l = e :: l' ∧ VRel X k e.key ∧ VRel X v e.val ∧ ERel X r l'

def lsRel : Ls → LoopState → Prop
  | .ready, s => s = .ready
  | .busy, s => s = .busy
  | .done, s => s = .done
  | .over, s => s = .exhausted

def jumpRel : Jump → Option Code → Prop
  | .none, c => c = none
  | .ret, c => c = some .ret
  | .exit id, c => c = some (.exit id)

def ObjRel (E : Env) (X : Ctx) : Ent → Obj → Prop
  | .cl b o g, .cells el cs g' prot frz => g' = g ∧ (g = 0 → o = 0) ∧ ∃ arr fr, X.w.heap[b]? = some (.cells arr el fr) ∧ o + cs.length ≤ arr.size ∧
      (∀ i v, cs[i]? = some v → ∃ c, arr[o + i]? = some c ∧ plainC c ∧ VRel X v c) ∧
      (frz = false → ∀ x, o + prot ≤ x → x < arr.size → ¬ (fr.1 ≤ x ∧ x < fr.2)) ∧ (frz = true → X.Fz b)
  | .ob b, .map es => ∃ l clk, X.w.heap[b]? = some (.map l clk) ∧ ERel X es l.toList
  | .ob b, .siter s pos => X.w.heap[b]? = some (.stringIter ⟨s.toArray⟩ pos)
  | .ob b, .loop st j env ps as bd => ∃ L : Loop, X.w.heap[b]? = some (.loop L) ∧ lsRel st L.state ∧ jumpRel j L.pending ∧ LRel X env L.tmps.toList ∧
      ps = L.params.toList ∧ as = lowC E L.assign ∧ bd = lowC E L.body
  | _, _ => False

def isFrz : Obj → Bool
  | .cells _ _ _ _ f => f
  | _ => false

structure St (E : Env) (X : Ctx) (H : Heap) : Prop where
  objs : ∀ i o, H[i]? = some o → o ≠ .other → ∃ e, X.ρ i = some e ∧ ObjRel E X e o
  doms : ∀ i, (H[i]?).getD .other = .other → X.ρ i = none
  inj : ∀ i j e e', X.ρ i = some e → X.ρ j = some e' → e.blk = e'.blk → i = j
  bnd : ∀ i e, X.ρ i = some e → e.blk < X.w.heap.size
  fzb : ∀ b, X.Fz b → b < X.w.heap.size
  sep : ∀ i e o, X.ρ i = some e → H[i]? = some o → isFrz o = false → ¬ X.Fz e.blk

theorem St.obj {E : Env} {X : Ctx} {H : Heap} (st : St E X H) (i : Nat) (o : Obj) (h : H[i]? = some o) (hne : o ≠ .other := by nofun) : ∃ e, X.ρ i = some e ∧ ObjRel E X e o := st.objs i o h hne
theorem St.dom {E : Env} {X : Ctx} {H : Heap} (st : St E X H) (i : Nat) (h : H.length ≤ i) : X.ρ i = none := st.doms i (by rw [List.getElem?_eq_none h]; rfl)

/-- What the world outside has seen is the same. -/
def IO2 (w w' : World) : Prop := w'.os = w.os ∧ w'.output = w.output ∧ w'.tape = w.tape

structure Ext (bar : Nat) (X : Ctx) (H : Heap) (Y : Ctx) (H' : Heap) : Prop where
  le : Le X Y
  size : X.w.heap.size ≤ Y.w.heap.size
  other : ∀ b, b < X.w.heap.size → (∀ i e, bar ≤ i → X.ρ i = some e → e.blk ≠ b) → Y.w.heap[b]? = X.w.heap[b]?
  below : ∀ i, i < bar → Y.ρ i = X.ρ i
  fznew : ∀ b, Y.Fz b → b < X.w.heap.size → X.Fz b ∨ ∃ i e, bar ≤ i ∧ X.ρ i = some e ∧ e.blk = b
  own : ∀ i e, bar ≤ i → Y.ρ i = some e → e.blk < X.w.heap.size → ∃ j e', bar ≤ j ∧ X.ρ j = some e' ∧ e'.blk = e.blk
  pre : ∀ i, i < bar → H'[i]? = H[i]?
  len : H.length ≤ H'.length
  io : IO2 X.w Y.w

theorem Ext.refl (bar : Nat) (X : Ctx) (H : Heap) : Ext bar X H X H :=
  ⟨Le.refl X, Nat.le_refl _, fun _ _ _ => rfl, fun _ _ => rfl, fun _ h _ => .inl h, fun i e hi he _ => ⟨i, e, hi, he, rfl⟩, fun _ _ => rfl, Nat.le_refl _, rfl, rfl, rfl⟩

theorem Ext.trans {bar : Nat} {X Y Z : Ctx} {H H' H'' : Heap} (h : Ext bar X H Y H') (k : Ext bar Y H' Z H'') : Ext bar X H Z H'' := by
  refine ⟨h.le.trans k.le, Nat.le_trans h.size k.size, ?_, fun i hi => (k.below i hi).trans (h.below i hi), ?_, ?_, fun i hi => (k.pre i hi).trans (h.pre i hi), Nat.le_trans h.len k.len, k.io.1.trans h.io.1, k.io.2.1.trans h.io.2.1, k.io.2.2.trans h.io.2.2⟩
  · intro b hb hn
    rw [← h.other b hb hn]
    refine k.other b (Nat.lt_of_lt_of_le hb h.size) fun i e hi he hbl => ?_
    obtain ⟨j, e', hj, he', hbe⟩ := h.own i e hi he (hbl ▸ hb)
    exact hn j e' hj he' (hbe.trans hbl)
  · intro b hz hb
    rcases k.fznew b hz (Nat.lt_of_lt_of_le hb h.size) with hy | ⟨i, e, hi, he, hbl⟩
    · exact h.fznew b hy hb
    · obtain ⟨j, e', hj, he', hbe⟩ := h.own i e hi he (hbl ▸ hb)
      exact .inr ⟨j, e', hj, he', hbe.trans hbl⟩
  · intro i e hi he hb
    obtain ⟨j, e', hj, he', hbe⟩ := k.own i e hi he (Nat.lt_of_lt_of_le hb h.size)
    obtain ⟨j2, e2, hj2, he2, hbe2⟩ := h.own j e' hj he' (hbe ▸ hb)
    exact ⟨j2, e2, hj2, he2, hbe2.trans hbe⟩

end Go.Ev
/- Operations that neither read nor write memory: the evaluator's word on them is the machine's. -/
namespace Go.Ev
open Go

mutual
theorem constV_rel {X : Ctx} : ∀ (c : Value) {v : V}, constV c = some v → VRel X v c
  | .bool b, _, h => by unfold constV at h; cases h; unfold VRel; rfl
  | .int k n, _, h => by unfold constV at h; cases h; unfold VRel; rfl
  | .string s, _, h => by unfold constV at h; cases h; unfold VRel; simp
  | .pointer none, _, h => by unfold constV at h; cases h; unfold VRel; rfl
  | .slice none 0 0, _, h => by unfold constV at h; cases h; unfold VRel; exact ⟨none, 0, rfl, by simp, by simp, ⟨0, by simp⟩, by simp, by simp⟩
  | .map none, _, h => by unfold constV at h; cases h; unfold VRel; rfl
  | .func (.func f) ⟨[]⟩ ⟨[]⟩, _, h => by
    unfold constV at h; cases h; unfold VRel
    exact ⟨_, [], [], rfl, rfl, LRel.nil, LRel.nil⟩
  | .nilFunc, _, h => by unfold constV at h; cases h; unfold VRel; rfl
  | .nilIface, _, h => by unfold constV at h; cases h; unfold VRel; rfl
  | .agg ⟨l⟩, _, h => by
    unfold constV at h
    split at h
    · rename_i hp
      cases hl : constL l with
      | none => rw [hl] at h; cases h
      | some vs =>
        rw [hl] at h; cases h; unfold VRel
        refine ⟨l, rfl, constL_rel l hl, fun x hx => ?_⟩
        have := List.all_eq_true.1 hp x hx
        cases x <;> simp_all [plainB, plainC]
    · cases h
  | .tuple ⟨l⟩, _, h => by
    unfold constV at h
    cases hl : constL l with
    | none => rw [hl] at h; cases h
    | some vs => rw [hl] at h; cases h; unfold VRel; exact ⟨l, rfl, constL_rel l hl⟩
  | .float _ _, _, h => by simp [constV] at h
  | .complex _ _ _, _, h => by simp [constV] at h
  | .pointer (some _), _, h => by simp [constV] at h
  | .slice (some _) _ _, _, h => by simp [constV] at h
  | .slice none (_ + 1) _, _, h => by simp [constV] at h
  | .slice none 0 (_ + 1), _, h => by simp [constV] at h
  | .map (some _), _, h => by simp [constV] at h
  | .chan _, _, h => by simp [constV] at h
  | .iface _ _, _, h => by simp [constV] at h
  | .func (.method _) _ _, _, h => by simp [constV] at h
  | .func (.methodOf _ _) _ _, _, h => by simp [constV] at h
  | .func (.via _ _ _ _) _ _, _, h => by simp [constV] at h
  | .func (.yield _) _ _, _, h => by simp [constV] at h
  | .func (.func _) ⟨_ :: _⟩ _, _, h => by simp [constV] at h
  | .func (.func _) ⟨[]⟩ ⟨_ :: _⟩, _, h => by simp [constV] at h
theorem constL_rel {X : Ctx} : ∀ (l : List Value) {vs : List V}, constL l = some vs → LRel X vs l
  | [], _, h => by unfold constL at h; cases h; exact LRel.nil
  | c :: r, _, h => by
    unfold constL at h
    cases hc : constV c with
    | none => rw [hc] at h; cases h
    | some v =>
      rw [hc] at h
      cases hr : constL r with
      | none => simp only [hr] at h; cases h
      | some vs =>
        simp only [hr] at h
        cases h
        exact LRel.cons (constV_rel c hc) (constL_rel r hr)
end

def Glob (E : Env) (X : Ctx) : Prop := ∀ g cs, E.globs g = some cs → VRel X (.fp cs 0) (.pointer (some ⟨g, 0, none⟩))

theorem Glob.le {E : Env} {X Y : Ctx} (h : Glob E X) (k : Le X Y) : Glob E Y := fun g cs hg => VRel.le k _ (h g cs hg)

theorem arr_getD (a : Array Value) (i : Nat) (d : Value) : a.getD i d = a.toList.getD i d := by
  rw [Array.getD_eq_getD_getElem?, List.getD_eq_getElem?_getD, Array.getElem?_toList]

theorem lowR_rel {E : Env} {X : Ctx} {env : List V} {a : Act} (he : LRel X env a.tmps.toList) (hg : Glob E X) {x : Operand} {r : Rd} (h : lowR E x = some r) :
    VRel X (r.ev env) (a.eval x) := by
  cases x with
  | tmp t =>
    cases h
    show VRel X (env.getD t undefV) (a.tmps.getD t undef)
    rw [arr_getD]
    exact he.getD t
  | const v =>
    simp only [lowR, Option.map_eq_some_iff] at h
    obtain ⟨w, hw, rfl⟩ := h
    exact constV_rel v hw
  | global g =>
    simp only [lowR, Option.map_eq_some_iff] at h
    obtain ⟨w, hw, rfl⟩ := h
    exact hg g w hw
  | func f =>
    cases h
    show VRel X (.fn (.func f) [] []) (.func (.func f) #[] #[])
    unfold VRel
    exact ⟨_, [], [], rfl, rfl, LRel.nil, LRel.nil⟩

theorem mapO_cons {α β : Type} {f : α → Option β} {a : α} {r : List α} {l : List β} (h : mapO f (a :: r) = some l) : ∃ b l', f a = some b ∧ mapO f r = some l' ∧ l = b :: l' := by
  unfold mapO at h
  cases hf : f a with
  | none => rw [hf] at h; cases h
  | some b =>
    rw [hf] at h
    cases hr : mapO f r with
    | none => simp only [hr] at h; cases h
    | some l' => simp only [hr] at h; cases h; exact ⟨b, l', rfl, rfl, rfl⟩

theorem lowL_rel {E : Env} {X : Ctx} {env : List V} {a : Act} (he : LRel X env a.tmps.toList) (hg : Glob E X) : ∀ {l : List Operand} {rs : List Rd}, mapO (lowR E) l = some rs →
    LRel X (rs.map (·.ev env)) (l.map a.eval)
  | [], _, h => by unfold mapO at h; cases h; exact LRel.nil
  | x :: l, _, h => by
    obtain ⟨b, l', h1, h2, rfl⟩ := mapO_cons h
    exact LRel.cons (lowR_rel he hg h1) (lowL_rel he hg h2)

/-! ### taking cells -/
theorem lkOf_one {E : Env} {t : TypeId} (h : lkOf E t = some .one) : ∃ d i, E.P.underlying t = some d ∧ E.P.info? t = some i ∧ i.size = 1 ∧ (∀ fs, d ≠ .struct fs) ∧ (∀ n e, d ≠ .array n e) := by
  unfold lkOf at h
  split at h
  · cases h
  · cases h
  · rename_i d i h1 h2 hd hi
    split at h
    · exact ⟨d, i, hd, hi, by assumption, h1, h2⟩
    · cases h
  · cases h

theorem lkOf_many {E : Env} {t : TypeId} {n : Nat} (h : lkOf E t = some (.many n)) : ∃ d i, E.P.underlying t = some d ∧ E.P.info? t = some i ∧ i.size = n ∧ ((∃ fs, d = .struct fs) ∨ (∃ n e, d = .array n e)) := by
  unfold lkOf at h
  split at h
  · rename_i hd hi; cases h; exact ⟨_, _, hd, hi, rfl, .inl ⟨_, rfl⟩⟩
  · rename_i hd hi; cases h; exact ⟨_, _, hd, hi, rfl, .inr ⟨_, _, rfl⟩⟩
  · split at h <;> cases h
  · cases h

theorem run_isAgg_one {E : Env} {t : TypeId} (h : lkOf E t = some .one) (w : World) : (isAgg t).run E.P w = .ok false w := by
  obtain ⟨d, i, hd, _, _, h1, h2⟩ := lkOf_one h
  simp only [isAgg, Sem.run_bind, run_underlying hd, Result.andThen_ok]
  rfl

theorem run_isAgg_many {E : Env} {t : TypeId} {n : Nat} (h : lkOf E t = some (.many n)) (w : World) : (isAgg t).run E.P w = .ok true w := by
  obtain ⟨d, i, hd, _, _, ⟨fs, rfl⟩ | ⟨m, e, rfl⟩⟩ := lkOf_many h <;> simp only [isAgg, Sem.run_bind, run_underlying hd, Result.andThen_ok] <;> rfl

theorem run_sizeOf_many {E : Env} {t : TypeId} {n : Nat} (h : lkOf E t = some (.many n)) (w : World) : (sizeOf t).run E.P w = .ok n w := by
  obtain ⟨d, i, _, hi, hs, _⟩ := lkOf_many h
  simp [sizeOf, typeInfo, hi, hs]

theorem run_sizeOf_sz {E : Env} {t : TypeId} {n : Nat} (h : szOf E t = some n) (w : World) : (sizeOf t).run E.P w = .ok n w := by
  unfold szOf at h
  cases hi : E.P.info? t with
  | none => rw [hi] at h; cases h
  | some i => rw [hi] at h; cases h; simp [sizeOf, typeInfo, hi]

/-- Taking a part of an aggregate. -/
theorem part_ok {E : Env} {X : Ctx} {t : TypeId} {k : Lk} (hk : lkOf E t = some k) {cs : List V} {l : List Value} (hl : LRel X cs l) (hp : ∀ x ∈ l, plainC x) {off : Nat} {v : V} (h : Ev.take k cs off = some v) :
    ∃ c, (part t ⟨l⟩ off).run E.P X.w = .ok c X.w ∧ VRel X v c := by
  cases k with
  | one =>
    obtain ⟨c, hc, hv⟩ := hl.get off v h
    refine ⟨c, ?_, hv⟩
    simp [part, run_isAgg_one hk, hc]
  | many n =>
    simp only [Ev.take] at h
    split at h
    · rename_i hle
      cases h
      refine ⟨.agg ((⟨l⟩ : Array Value).extract off (off + n)), ?_, ?_⟩
      · simp [part, run_isAgg_many hk, run_sizeOf_many hk]
      · unfold VRel
        refine ⟨(l.drop off).take n, ?_, (hl.drop off).take n, fun x hx => hp x (List.mem_of_mem_drop (List.mem_of_mem_take hx))⟩
        congr 1
        apply Array.ext'
        simp [List.extract_eq_take_drop]
    · cases h


/-! ### the operations, one by one -/
variable {E : Env} {X : Ctx} {env : List V} {a : Act} {o : Oper} {H : Heap} {bar : Nat}

/-- The operation hands back c and leaves the world. -/
abbrev Gives (E : Env) (X : Ctx) (a : Act) (o : Oper) (v : V) : Prop := ∃ c, (execOp a.eval o).run E.P X.w = .ok (.value c) X.w ∧ VRel X v c

theorem gives_v {s : Sem Value} {v : V} (ho : execOp a.eval o = (do pure (.value (← s)))) (h : ∃ c, s.run E.P X.w = .ok c X.w ∧ VRel X v c) : Gives E X a o v := by
  obtain ⟨c, h1, h2⟩ := h
  exact ⟨c, by rw [ho]; simp [h1], h2⟩

theorem move_ok (he : LRel X env a.tmps.toList) (hg : Glob E X) {x : Operand} {r : Rd} (ho : o.op = .move x ∨ o.op = .assign x) (hr : lowR E x = some r) : Gives E X a o (r.ev env) := by
  refine ⟨a.eval x, ?_, lowR_rel he hg hr⟩
  rcases ho with ho | ho <;> simp [execOp, ho]

theorem pick_ok (he : LRel X env a.tmps.toList) (hg : Glob E X) {c x y : Operand} {rc rx ry : Rd} (ho : o.op = .pick c x y) (hc : lowR E c = some rc) (hx : lowR E x = some rx) (hy : lowR E y = some ry) {b : Bool} (hb : rc.ev env = .bool b) :
    Gives E X a o (if b then rx.ev env else ry.ev env) := by
  have h := lowR_rel he hg hc
  rw [hb] at h
  unfold VRel at h
  cases b with
  | true => exact ⟨a.eval x, by simp [execOp, ho, h, asBool], lowR_rel he hg hx⟩
  | false => exact ⟨a.eval y, by simp [execOp, ho, h, asBool], lowR_rel he hg hy⟩

theorem nilck_ok (he : LRel X env a.tmps.toList) (hg : Glob E X) {x : Operand} {r : Rd} (ho : o.op = .nilCheck x) (hr : lowR E x = some r) {v : V} (hv : opV bar env H (.nilck r) = some (v, H)) : Gives E X a o v := by
  have h := lowR_rel he hg hr
  simp only [opV] at hv
  split at hv <;> cases hv
  · rename_i i g q hq
    rw [hq] at h
    have h' := h
    unfold VRel at h
    obtain ⟨_, _, _, ad, _, _, e, _⟩ := h
    exact ⟨a.eval x, by simp [execOp, ho, e], h'⟩
  · rename_i cs q hq
    rw [hq] at h
    have h' := h
    unfold VRel at h
    obtain ⟨_, _, e, _⟩ := h
    exact ⟨a.eval x, by simp [execOp, ho, e], h'⟩
  · rename_i f fi cp hq
    rw [hq] at h
    have h' := h
    unfold VRel at h
    obtain ⟨g, cf, cc, e, hf, _⟩ := h
    refine ⟨a.eval x, ?_, h'⟩
    cases f with
    | func k => have : g = .func k := hf; subst this; simp [execOp, ho, e]
    | yield k => obtain ⟨b, _, rfl⟩ := hf; simp [execOp, ho, e]
    | method _ => exact hf.elim
    | methodOf _ _ => exact hf.elim
    | via _ _ _ _ => exact hf.elim

theorem iface_ok (he : LRel X env a.tmps.toList) (hg : Glob E X) {t : TypeId} {x : Operand} {r : Rd} (ho : o.op = .makeInterface t x) (hr : lowR E x = some r) {d : TypeDesc} (hd : E.P.underlying t = some d) (hi : ∀ ms, d ≠ .interface ms) :
    Gives E X a o (.iface t (r.ev env)) := by
  refine ⟨.iface t (a.eval x), ?_, ?_⟩
  · simp only [execOp, ho, Instr.makeInterface, Sem.run_bind, run_underlying hd, Result.andThen_ok]
    cases d <;> first | rfl | exact absurd rfl (hi _)
  · unfold VRel; exact ⟨_, rfl, lowR_rel he hg hr⟩

theorem mkfn_ok (he : LRel X env a.tmps.toList) (hg : Glob E X) {f : FuncId} {x y : Array Operand} {rx ry : List Rd} (ho : o.op = .makeFunc (.func f) x y) (hx : lowL E x = some rx) (hy : lowL E y = some ry) :
    Gives E X a o (.fn (.func f) (rx.map (·.ev env)) (ry.map (·.ev env))) := by
  refine ⟨.func (.func f) (x.map a.eval) (y.map a.eval), by simp [execOp, ho, Instr.makeFunc], ?_⟩
  unfold VRel
  refine ⟨.func f, x.toList.map a.eval, y.toList.map a.eval, ?_, rfl, lowL_rel he hg hx, lowL_rel he hg hy⟩
  congr 1 <;> (apply Array.ext'; simp)

theorem off_ok (he : LRel X env a.tmps.toList) (hg : Glob E X) {t : TypeId} {x : Operand} {r : Rd} {fi : Nat} (ho : o.op = .fieldAddr t x fi) (hr : lowR E x = some r) {fs : Array Field} {f : Field} (hu : E.P.underlying t = some (.struct fs)) (hf : fs[fi]? = some f)
    {n : Nat} (hn : szOf E f.type = some n) (h0 : n ≠ 0) {v : V} (hv : opV bar env H (.off f.offset r) = some (v, H)) : Gives E X a o v := by
  have h := lowR_rel he hg hr
  have key : ∀ ad, a.eval x = .pointer (some ad) → (execOp a.eval o).run E.P X.w = .ok (.value (.pointer (some (ad.add f.offset)))) X.w := by
    intro ad e
    simp [execOp, ho, Instr.fieldAt, run_underlying hu, hf, e, Instr.sureAddr, fieldPlace, run_sizeOf_sz hn, h0]
  simp only [opV] at hv
  split at hv <;> cases hv
  · rename_i i g q hq
    rw [hq] at h
    unfold VRel at h
    obtain ⟨b, o', g', ad, h1, h2, e, h3⟩ := h
    refine ⟨_, key ad e, ?_⟩
    unfold VRel
    refine ⟨b, o', g', _, h1, h2, rfl, fun eg => ?_⟩
    rw [h3 eg]
    unfold Addr.add
    split
    · simp_all
    · simp [Nat.add_assoc]
  · rename_i cs q hq
    rw [hq] at h
    unfold VRel at h
    obtain ⟨b, o', e, h3⟩ := h
    refine ⟨_, key _ e, ?_⟩
    unfold VRel
    refine ⟨b, o', ?_, h3⟩
    unfold Addr.add
    split
    · simp_all
    · simp [Nat.add_assoc]

theorem fld_ok (he : LRel X env a.tmps.toList) (hg : Glob E X) {t : TypeId} {x : Operand} {r : Rd} {fi : Nat} (ho : o.op = .field t x fi) (hr : lowR E x = some r) {fs : Array Field} {f : Field} (hu : E.P.underlying t = some (.struct fs)) (hf : fs[fi]? = some f)
    {k : Lk} (hk : lkOf E f.type = some k) {v : V} (hv : opV bar env H (.fld f.offset k r) = some (v, H)) : Gives E X a o v := by
  have h := lowR_rel he hg hr
  simp only [opV] at hv
  split at hv
  · rename_i cs hq
    simp only [Option.map_eq_some_iff] at hv
    obtain ⟨v', hv', e⟩ := hv
    cases e
    rw [hq] at h
    unfold VRel at h
    obtain ⟨l, e, hl, hp⟩ := h
    obtain ⟨c, h1, h2⟩ := part_ok hk hl hp hv'
    refine ⟨c, ?_, h2⟩
    simp [execOp, ho, Instr.field, run_underlying hu, hf, e, asAgg, h1]
  · cases hv

theorem ext_ok (he : LRel X env a.tmps.toList) (hg : Glob E X) {x : Operand} {r : Rd} {i : Nat} (ho : o.op = .extract x i) (hr : lowR E x = some r) {v : V} (hv : opV bar env H (.ext r i) = some (v, H)) : Gives E X a o v := by
  have h := lowR_rel he hg hr
  simp only [opV] at hv
  split at hv
  · rename_i vs hq
    simp only [Option.map_eq_some_iff] at hv
    obtain ⟨v', hv', e⟩ := hv
    cases e
    rw [hq] at h
    unfold VRel at h
    obtain ⟨l, e, hl⟩ := h
    obtain ⟨c, hc, h2⟩ := hl.get i _ hv'
    refine ⟨c, ?_, h2⟩
    simp [execOp, ho, Instr.extract, e, hc]
  · cases hv

theorem un_ok (he : LRel X env a.tmps.toList) (hg : Glob E X) {q : UnOp} {t : TypeId} {x : Operand} {r : Rd} (ho : o.op = .unOp q t x) (hr : lowR E x = some r) {v : V} (hv : unV q (r.ev env) = some v) : Gives E X a o v := by
  have h := lowR_rel he hg hr
  cases q <;> cases hx : r.ev env <;> rw [hx] at hv <;> simp only [unV] at hv <;> (try (cases hv; done)) <;> rw [hx] at h <;> unfold VRel at h
  · cases hv
    exact ⟨_, by simp [execOp, ho, h, Op.unary, Op.intArith]; rfl, by unfold VRel; rfl⟩
  · simp only [intBits] at hv
    cases hv
    exact ⟨_, by simp [execOp, ho, h, Op.unary, Op.intBits]; rfl, by unfold VRel; rfl⟩
  · cases hv
    exact ⟨_, by simp [execOp, ho, h, Op.unary]; rfl, by unfold VRel; rfl⟩

end Go.Ev
/- More operations that touch no memory: numbers, texts, comparisons, slices. -/
namespace Go.Ev
open Go
variable {E : Env} {X : Ctx} {env : List V} {a : Act} {o : Oper} {H : Heap} {bar : Nat}

theorem bytesLess_eq : ∀ x y : List UInt8, Op.bytesLess x y = Ev.bytesLess x y
  | _, [] => by cases ‹List UInt8› <;> simp [Op.bytesLess, Ev.bytesLess]
  | [], _ :: _ => by simp [Op.bytesLess, Ev.bytesLess]
  | a :: x, b :: y => by simp [Op.bytesLess, Ev.bytesLess, bytesLess_eq x y]

theorem strBin_ok {P : Program} {w : World} {q : BinOp} {x y : List UInt8} {v : V} (h : strBin q x y = some v) : ∃ c, (Op.stringOp q ⟨x.toArray⟩ ⟨y.toArray⟩).run P w = .ok c w ∧ VRel X v c := by
  cases q <;> simp only [strBin] at h <;> (try (cases h; done))
  case add =>
    split at h
    · rename_i hle
      cases h
      refine ⟨.string ⟨(x ++ y).toArray⟩, ?_, by unfold VRel; rfl⟩
      have hs : ¬ (((⟨x.toArray⟩ : ByteArray).size + (⟨y.toArray⟩ : ByteArray).size : Nat) : Int) > IntKind.i64.max := by
        have : IntKind.i64.max = 9223372036854775807 := by decide
        rw [this]
        simp [ByteArray.size]
        omega
      simp only [Op.stringOp, hs, if_false, Sem.run_pure]
      congr 2
    · cases h
  all_goals
    cases h
    exact ⟨_, by simp only [Op.stringOp, ByteArray.toList_eq, bytesLess_eq]; rfl, by unfold VRel; rfl⟩

theorem strBinOp {q : BinOp} {x y : List UInt8} {v : V} (t : TypeId) (h : strBin q x y = some v) : binOp q t (.string ⟨x.toArray⟩) (.string ⟨y.toArray⟩) = Op.stringOp q ⟨x.toArray⟩ ⟨y.toArray⟩ := by
  cases q <;> first | rfl | (simp [strBin] at h)

theorem eqGuard_run {P : Program} {w : World} (q : BinOp) (t : TypeId) (x y : Operand) {c d : Value} (h : ¬ (q = .eql ∨ q = .neq)) : (eqGuard q t x y c d).run P w = .ok () w := by
  unfold eqGuard
  cases q <;> simp_all

theorem eqGuard_scalar {P : Program} {w : World} (q : BinOp) (t : TypeId) (x y : Operand) {c d : Value} (h : c ≠ .nilIface ∨ d ≠ .nilIface) (h1 : ∀ l, c ≠ .agg l) : (eqGuard q t x y c d).run P w = .ok () w := by
  unfold eqGuard
  cases q <;> (try simp; done)
  all_goals
    cases c <;> cases d <;> first
      | (simp; done)
      | (exact absurd rfl (h1 _))
      | (rcases h with h | h <;> exact absurd rfl h)

theorem intBin_ok {P : Program} {w : World} {q : BinOp} {k : IntKind} {x y : Int} {v : V} (t : TypeId) (hs : q ≠ .shl) (hr : q ≠ .shr) (h : intBin q k x y = some v) : ∃ c, (binOp q t (.int k x) (.int k y)).run P w = .ok c w ∧ VRel X v c := by
  cases q <;> simp only [intBin] at h <;> (try (exact absurd rfl hs)) <;> (try (exact absurd rfl hr))
  case quo =>
    split at h
    · cases h
    · cases h; exact ⟨_, by simp [binOp, Op.intDiv, *]; rfl, by unfold VRel; rfl⟩
  case rem =>
    split at h
    · cases h
    · cases h; exact ⟨_, by simp [binOp, Op.intDiv, *]; rfl, by unfold VRel; rfl⟩
  all_goals (try simp only [intBits] at h); cases h
  all_goals exact ⟨_, by simp only [binOp, ne_eq, not_true_eq_false, if_false, Op.intArith, Op.intBits, Op.intCmp]; rfl, by unfold VRel; rfl⟩

theorem bin_ok (he : LRel X env a.tmps.toList) (hg : Glob E X) {q : BinOp} {t u : TypeId} {x y : Operand} {rx ry : Rd} (ho : o.op = .binOp q t x y u) (hx : lowR E x = some rx) (hy : lowR E y = some ry) {v : V} (hv : binV q (rx.ev env) (ry.ev env) = some v) : Gives E X a o v := by
  have h1 := lowR_rel he hg hx
  have h2 := lowR_rel he hg hy
  suffices h : ∃ c, (binOp q t (a.eval x) (a.eval y)).run E.P X.w = .ok c X.w ∧ VRel X v c ∧ (eqGuard q t x y (a.eval x) (a.eval y)).run E.P X.w = .ok () X.w by
    obtain ⟨c, h3, h4, h5⟩ := h
    refine ⟨c, ?_, h4⟩
    simp [execOp, ho, h3, h5]
  unfold binV at hv
  split at hv
  · rename_i k m k' n e1 e2
    rw [e1] at h1; rw [e2] at h2; unfold VRel at h1 h2
    split at hv
    · cases hv
    · rename_i hn
      cases hv
      rw [h1, h2]
      exact ⟨_, by simp [binOp, Op.shift, hn]; rfl, by unfold VRel; rfl, eqGuard_run _ _ _ _ (by simp)⟩
  · rename_i k m k' n e1 e2
    rw [e1] at h1; rw [e2] at h2; unfold VRel at h1 h2
    split at hv
    · cases hv
    · rename_i hn
      cases hv
      rw [h1, h2]
      exact ⟨_, by simp [binOp, Op.shift, hn]; rfl, by unfold VRel; rfl, eqGuard_run _ _ _ _ (by simp)⟩
  · rename_i k m k' n hs hr e1 e2
    rw [e1] at h1; rw [e2] at h2; unfold VRel at h1 h2
    split at hv
    · rename_i hk
      subst hk
      rw [h1, h2]
      obtain ⟨c, h3, h4⟩ := intBin_ok (X := X) (P := E.P) (w := X.w) t (fun e => by subst e; exact hs rfl) (fun e => by subst e; exact hr rfl) hv
      exact ⟨c, h3, h4, eqGuard_scalar _ _ _ _ (by simp) (by simp)⟩
    · cases hv
  · rename_i m n e1 e2
    rw [e1] at h1; rw [e2] at h2; unfold VRel at h1 h2
    rw [h1, h2]
    obtain ⟨c, h3, h4⟩ := strBin_ok (X := X) (P := E.P) (w := X.w) hv
    refine ⟨c, ?_, h4, eqGuard_scalar _ _ _ _ (by simp) (by simp)⟩
    rw [strBinOp t hv]; exact h3
  · cases hv

end Go.Ev
/- Equality of structs, of pointers, and with nil. -/
namespace Go.Ev
open Go
variable {E : Env} {X : Ctx} {env : List V} {a : Act} {o : Oper} {H : Heap} {bar : Nat}

def Pack (P : Program) (t : TypeId) (l : List Value) (c : Value) : Prop :=
  (∃ fs, P.underlying t = some (.struct fs) ∧ c = .agg ⟨l⟩) ∨ ((∀ fs, P.underlying t ≠ some (.struct fs)) ∧ l = [c])

theorem eqL_len : ∀ {ks : List Kk} {xs ys : List V} {r : Bool}, eqL ks xs ys = some r → xs.length = ks.length ∧ ys.length = ks.length
  | [], [], [], _, _ => by simp
  | k :: ks, x :: xs, y :: ys, r, h => by
    simp only [eqL] at h
    split at h
    · rename_i h1 h2
      have := eqL_len h2
      simp [this]
    · cases h
  | [], _ :: _, _, _, h => by simp [eqL] at h
  | [], [], _ :: _, _, h => by simp [eqL] at h
  | _ :: _, [], _, _, h => by simp [eqL] at h
  | _ :: _, _ :: _, [], _, h => by simp [eqL] at h

theorem eqL_append : ∀ {l ks : List Kk} {xs ys : List V} {r : Bool}, eqL (l ++ ks) xs ys = some r →
    ∃ r1 r2, eqL l (xs.take l.length) (ys.take l.length) = some r1 ∧ eqL ks (xs.drop l.length) (ys.drop l.length) = some r2 ∧ r = (r1 && r2)
  | [], ks, xs, ys, r, h => ⟨true, r, by simp [eqL], by simpa using h, by simp⟩
  | k :: l, ks, x :: xs, y :: ys, r, h => by
    simp only [List.cons_append, eqL] at h
    split at h
    · rename_i u v h1 h2
      cases h
      obtain ⟨r1, r2, e1, e2, rfl⟩ := eqL_append h2
      exact ⟨u && r1, r2, by simp [eqL, h1, e1], by simpa using e2, by cases u <;> simp⟩
    · cases h
  | _ :: _, _, [], _, _, h => by simp [eqL] at h
  | _ :: _, _, _ :: _, [], _, h => by simp [eqL] at h

theorem plainEq_pos {P : Program} {n : Nat} {t : TypeId} {ks : List Kk} (h : plainEq P n t = some ks) : ∃ m i, n = m + 1 ∧ P.info? t = some i ∧ i.size = ks.length ∧
    ((P.underlying t = some .bool ∧ ks = [.b]) ∨ (∃ k, P.underlying t = some (.int k) ∧ ks = [.i]) ∨ (P.underlying t = some .string ∧ ks = [.s]) ∨
     (∃ fs, P.underlying t = some (.struct fs) ∧ P.stoodInHeld t = false ∧ plainFields P (plainEq P m) fs.toList 0 = some ks)) := by
  cases n with
  | zero => simp [plainEq] at h
  | succ m =>
    simp only [plainEq] at h
    split at h
    · cases h
    · rename_i i hi
      refine ⟨m, i, rfl, hi, ?_⟩
      split at h
      · rename_i hu; split at h <;> cases h; exact ⟨by assumption, .inl ⟨hu, rfl⟩⟩
      · rename_i k hu; split at h <;> cases h; exact ⟨by assumption, .inr (.inl ⟨k, hu, rfl⟩)⟩
      · rename_i hu; split at h <;> cases h; exact ⟨by assumption, .inr (.inr (.inl ⟨hu, rfl⟩))⟩
      · rename_i fs hu
        split at h
        · cases h
        · rename_i hs
          split at h
          · rename_i k hk
            split at h <;> cases h
            rename_i hl
            exact ⟨hl.symm, .inr (.inr (.inr ⟨fs, hu, by simpa using hs, hk⟩))⟩
          · cases h
      · cases h

theorem part_pack {P : Program} {w : World} {n : Nat} {t : TypeId} {ks : List Kk} (h : plainEq P n t = some ks) {L : List Value} {off : Nat} (hl : off + ks.length ≤ L.length) :
    ∃ c, (part t ⟨L⟩ off).run P w = .ok c w ∧ Pack P t ((L.drop off).take ks.length) c := by
  obtain ⟨m, i, rfl, hi, hs, hc⟩ := plainEq_pos h
  have scal : ∀ d, P.underlying t = some d → (∀ fs, d ≠ .struct fs) → (∀ n e, d ≠ .array n e) → ks.length = 1 → ∃ c, (part t ⟨L⟩ off).run P w = .ok c w ∧ Pack P t ((L.drop off).take ks.length) c := by
    intro d hu h1 h2 hk
    have hlt : off < L.length := by omega
    refine ⟨L[off], ?_, .inr ⟨fun fs e => h1 fs (by rw [hu] at e; injection e), ?_⟩⟩
    · have : (isAgg t).run P w = .ok false w := by simp only [isAgg, Sem.run_bind, run_underlying hu, Result.andThen_ok]; cases d <;> first | rfl | exact absurd rfl (h1 _) | exact absurd rfl (h2 _ _)
      simp [part, this, hlt]
    · rw [hk, List.drop_eq_getElem_cons hlt]; rfl
  rcases hc with ⟨hu, rfl⟩ | ⟨k, hu, rfl⟩ | ⟨hu, rfl⟩ | ⟨fs, hu, _, _⟩
  · exact scal _ hu (by simp) (by simp) rfl
  · exact scal _ hu (by simp) (by simp) rfl
  · exact scal _ hu (by simp) (by simp) rfl
  · refine ⟨.agg ((⟨L⟩ : Array Value).extract off (off + ks.length)), ?_, .inl ⟨fs, hu, ?_⟩⟩
    · have : (isAgg t).run P w = .ok true w := by simp only [isAgg, Sem.run_bind, run_underlying hu, Result.andThen_ok]; rfl
      simp [part, this, sizeOf, typeInfo, hi, hs]
    · congr 1
      apply Array.ext'
      simp [List.extract_eq_take_drop]

theorem eqPlain (P : Program) : ∀ (n : Nat) (t : TypeId) (ks : List Kk), plainEq P n t = some ks → ∀ (d : Nat), n ≤ d → ∀ (X : Ctx) (xs ys : List V) (r : Bool) (lx ly : List Value), eqL ks xs ys = some r → LRel X xs lx → LRel X ys ly →
    ∀ (c c' : Value) (w : World), Pack P t lx c → Pack P t ly c' → (Op.equalIn d t c c').run P w = .ok r w := by
  intro n
  induction n with
  | zero => intro t ks h; simp [plainEq] at h
  | succ n ih =>
    intro t ks h d hd X xs ys r lx ly hr hx hy c c' w hc hc'
    obtain ⟨d, rfl⟩ : ∃ m, d = m + 1 := ⟨d - 1, by omega⟩
    obtain ⟨m, i, hm, hi, hs, hcase⟩ := plainEq_pos h
    have hm' : m = n := by omega
    subst hm'
    have scal : ∀ k, ks = [k] → (∀ fs, P.underlying t ≠ some (.struct fs)) → ∃ x y, xs = [x] ∧ ys = [y] ∧ eqK k x y = some r ∧ VRel X x c ∧ VRel X y c' := by
      intro k hk hns
      subst hk
      have hl := eqL_len hr
      match xs, ys, hl with
      | [x], [y], _ =>
        rcases hc with ⟨fs, e, _⟩ | ⟨_, rfl⟩
        · exact absurd e (hns fs)
        · rcases hc' with ⟨fs, e, _⟩ | ⟨_, rfl⟩
          · exact absurd e (hns fs)
          · refine ⟨x, y, rfl, rfl, ?_, (LRel.cons_iff.1 hx).1, (LRel.cons_iff.1 hy).1⟩
            simp only [eqL] at hr
            split at hr
            · rename_i u v h1 h2; cases h2; cases hr; simpa using h1
            · cases hr
    rcases hcase with ⟨hu, rfl⟩ | ⟨k, hu, rfl⟩ | ⟨hu, rfl⟩ | ⟨fs, hu, hsh, hpf⟩
    · obtain ⟨x, y, rfl, rfl, hk, h1, h2⟩ := scal _ rfl (by simp [hu])
      cases x <;> cases y <;> simp [eqK] at hk
      subst hk
      unfold VRel at h1 h2
      subst h1 h2
      exact run_equalIn_bool' w d t _ _ hu
    · obtain ⟨x, y, rfl, rfl, hk, h1, h2⟩ := scal _ rfl (by simp [hu])
      cases x <;> cases y <;> simp [eqK] at hk
      obtain ⟨rfl, rfl⟩ := hk
      unfold VRel at h1 h2
      subst h1 h2
      exact run_equalIn_int w d t _ _ _ _ hu
    · obtain ⟨x, y, rfl, rfl, hk, h1, h2⟩ := scal _ rfl (by simp [hu])
      cases x <;> cases y <;> simp [eqK] at hk
      subst hk
      unfold VRel at h1 h2
      subst h1 h2
      rw [run_equalIn_string w d t _ _ hu]
      simp [ByteArray.toList_eq]
    · rcases hc with ⟨_, _, rfl⟩ | ⟨hn, _⟩
      · rcases hc' with ⟨_, _, rfl⟩ | ⟨hn, _⟩
        · have hfo : P.fieldsOf t = fs := by simp [Program.fieldsOf, hu]
          rw [run_equalIn_struct w d t _ _ (by rw [hfo]; exact hu) hsh, hfo]
          have key : ∀ (l : List Field) (off : Nat) (ks : List Kk), plainFields P (plainEq P m) l off = some ks → off ≤ lx.length → off ≤ ly.length → ∀ (xs ys : List V) (r : Bool), eqL ks xs ys = some r → LRel X xs (lx.drop off) → LRel X ys (ly.drop off) →
              (Op.eqFields d ⟨lx⟩ ⟨ly⟩ l).run P w = .ok r w := by
            intro l
            induction l with
            | nil =>
              intro off ks hpf _ _ xs ys r hr _ _
              simp only [plainFields] at hpf
              cases hpf
              have hl := eqL_len hr
              match xs, ys, hl with
              | [], [], _ => simp [eqL] at hr; subst hr; simp [Op.eqFields]
            | cons f l ihl =>
              intro off ks hpf ho1 ho2 xs ys r hr hx hy
              simp only [plainFields] at hpf
              split at hpf
              · cases hpf
              · rename_i hne
                split at hpf
                · rename_i kf hkf
                  simp only [Option.map_eq_some_iff] at hpf
                  obtain ⟨kr, hkr, rfl⟩ := hpf
                  obtain ⟨r1, r2, e1, e2, rfl⟩ := eqL_append hr
                  have hoff : f.offset = off := by
                    by_cases e : f.offset = off
                    · exact e
                    · exact absurd (.inr e) hne
                  have hname : f.name ≠ "_" := fun e => hne (.inl e)
                  have hlx := hx.length
                  have hly := hy.length
                  have hll := eqL_len hr
                  simp only [List.length_drop, List.length_append] at hlx hly hll
                  obtain ⟨c1, hc1, hp1⟩ := part_pack (P := P) (w := w) hkf (L := lx) (off := off) (by omega)
                  obtain ⟨c2, hc2, hp2⟩ := part_pack (P := P) (w := w) hkf (L := ly) (off := off) (by omega)
                  have hq := ih f.type kf hkf d (by omega) X _ _ r1 _ _ e1 (hx.take kf.length) (hy.take kf.length) c1 c2 w hp1 hp2
                  have hrest := ihl (off + kf.length) kr hkr (by omega) (by omega) _ _ r2 e2 (by rw [← List.drop_drop]; exact hx.drop _) (by rw [← List.drop_drop]; exact hy.drop _)
                  rw [Op.eqFields, if_pos hname]
                  simp only [Sem.run_bind, hoff, hc1, hc2, hq, Result.andThen_ok]
                  cases r1
                  · simp
                  · simpa using hrest
                · cases hpf
          exact key fs.toList 0 ks hpf (Nat.zero_le _) (Nat.zero_le _) xs ys r hr (by simpa using hx) (by simpa using hy)
        · exact absurd hu (hn fs)
      · exact absurd hu (hn fs)

theorem eqGuard_agg {P : Program} {w : World} {q : BinOp} {t : TypeId} (x y : Operand) {c d : Array Value} (h : P.eqGuardType P.depth t = false) : (eqGuard q t x y (.agg c) (.agg d)).run P w = .ok () w := by
  unfold eqGuard
  cases q <;> (try simp; done)
  all_goals simp [h]

/-- Which comparison an operation is: '!=' or '=='. -/
def eqOf (neg : Bool) : BinOp := if neg then .neq else .eql

theorem run_eq_bin {P : Program} {w : World} {neg : Bool} {t : TypeId} {c d : Value} {r : Bool} (h : (Op.equal t c d).run P w = .ok r w)
    (hc : ∀ k n, c ≠ .int k n) (hs : ∀ s, c ≠ .string s) (hf : ∀ k n, c ≠ .float k n) (hx : ∀ k n m, c ≠ .complex k n m) : (binOp (eqOf neg) t c d).run P w = .ok (.bool (r != neg)) w := by
  cases neg <;> simp only [eqOf, if_true, if_false, Bool.false_eq_true]
  · have : binOp .eql t c d = (do pure (.bool (← Op.equal t c d))) := by
      unfold binOp
      cases c <;> first | rfl | exact absurd rfl (hc _ _) | exact absurd rfl (hs _) | exact absurd rfl (hf _ _) | exact absurd rfl (hx _ _ _)
    rw [this]
    simp [h]
  · have : binOp .neq t c d = (do pure (.bool (!(← Op.equal t c d)))) := by
      unfold binOp
      cases c <;> first | rfl | exact absurd rfl (hc _ _) | exact absurd rfl (hs _) | exact absurd rfl (hf _ _) | exact absurd rfl (hx _ _ _)
    rw [this]
    simp [h]

theorem eqs_ok (he : LRel X env a.tmps.toList) (hg : Glob E X) {neg : Bool} {t u : TypeId} {x y : Operand} {rx ry : Rd} {ks : List Kk} (ho : o.op = .binOp (eqOf neg) t x y u) (hx : lowR E x = some rx) (hy : lowR E y = some ry) (hk : plainEq E.P 20 t = some ks)
    (hst : ∃ fs, E.P.underlying t = some (.struct fs)) (hgu : E.P.eqGuardType E.P.depth t = false) {v : V} (hv : opV bar env H (.eqs ks neg rx ry) = some (v, H)) : Gives E X a o v := by
  have h1 := lowR_rel he hg hx
  have h2 := lowR_rel he hg hy
  obtain ⟨fs, hst⟩ := hst
  simp only [opV] at hv
  split at hv
  · rename_i ca cb e1 e2
    rw [e1] at h1; rw [e2] at h2; unfold VRel at h1 h2
    simp only [Option.map_eq_some_iff] at hv
    obtain ⟨r, hr, e⟩ := hv
    cases e
    obtain ⟨l1, c1, q1, _⟩ := h1
    obtain ⟨l2, c2, q2, _⟩ := h2
    have hq : (Op.equal t (a.eval x) (a.eval y)).run E.P X.w = .ok r X.w :=
      eqPlain E.P 20 t ks hk Op.maxDepth (by decide) X _ _ r _ _ hr q1 q2 _ _ _ (.inl ⟨fs, hst, c1⟩) (.inl ⟨fs, hst, c2⟩)
    refine ⟨.bool (r != neg), ?_, by unfold VRel; rfl⟩
    have hb := run_eq_bin (neg := neg) hq (by simp [c1]) (by simp [c1]) (by simp [c1]) (by simp [c1])
    have hgr : (eqGuard (eqOf neg) t x y (a.eval x) (a.eval y)).run E.P X.w = .ok () X.w := by rw [c1, c2]; exact eqGuard_agg _ _ hgu
    simp [execOp, ho, hgr, hb]
  · cases hv

/-- Which type a kind of comparison is for. -/
def EkOk (P : Program) (t : TypeId) (x y : Operand) : Ek → Prop
  | .b => P.underlying t = some .bool
  | .sl => ∃ e, P.underlying t = some (.slice e)
  | .m => ∃ k e, P.underlying t = some (.map k e)
  | .f => ∃ ps rs v, P.underlying t = some (.func ps rs v)
  | .ifc => ∃ ms, P.underlying t = some (.interface ms) ∧ (x = .const .nilIface ∨ y = .const .nilIface)

theorem eqGuard_nil {P : Program} {w : World} {q : BinOp} {t : TypeId} {x y : Operand} (h : x = .const .nilIface ∨ y = .const .nilIface) : (eqGuard q t x y .nilIface .nilIface).run P w = .ok () w := by
  unfold eqGuard
  rcases h with rfl | rfl
  · cases q <;> simp
  · cases q <;> cases x <;> simp

theorem maxDepth_succ : Op.maxDepth = 9999 + 1 := rfl

theorem eqx_ok (he : LRel X env a.tmps.toList) (hg : Glob E X) {neg : Bool} {t u : TypeId} {x y : Operand} {rx ry : Rd} {k : Ek} (ho : o.op = .binOp (eqOf neg) t x y u) (hx : lowR E x = some rx) (hy : lowR E y = some ry) (hk : EkOk E.P t x y k)
    {r : Bool} (hv : eqX k (rx.ev env) (ry.ev env) = some r) : Gives E X a o (.bool (r != neg)) := by
  have h1 := lowR_rel he hg hx
  have h2 := lowR_rel he hg hy
  suffices h : (Op.equal t (a.eval x) (a.eval y)).run E.P X.w = .ok r X.w ∧ (eqGuard (eqOf neg) t x y (a.eval x) (a.eval y)).run E.P X.w = .ok () X.w ∧
      (∀ k n, a.eval x ≠ .int k n) ∧ (∀ s, a.eval x ≠ .string s) ∧ (∀ k n, a.eval x ≠ .float k n) ∧ (∀ k n m, a.eval x ≠ .complex k n m) by
    obtain ⟨hq, hgr, q1, q2, q3, q4⟩ := h
    have hb := run_eq_bin (neg := neg) hq q1 q2 q3 q4
    exact ⟨.bool (r != neg), by simp [execOp, ho, hgr, hb], by unfold VRel; rfl⟩
  unfold Op.equal
  rw [maxDepth_succ]
  generalize 9999 = dd
  unfold eqX at hv
  split at hv <;> (try (cases hv; done))
  · rename_i p q e1 e2
    rw [e1] at h1; rw [e2] at h2; unfold VRel at h1 h2; cases hv
    have hu : E.P.underlying t = some .bool := hk
    rw [h1, h2]
    exact ⟨run_equalIn_bool' _ _ t _ _ hu, eqGuard_scalar _ _ _ _ (by simp) (by simp), by simp, by simp, by simp, by simp⟩
  · rename_i p q n s d e1 e2
    rw [e1] at h1; rw [e2] at h2; unfold VRel at h1 h2; cases hv
    obtain ⟨e, hu⟩ := hk
    obtain ⟨a1, c1, q1, _, _, _, q2, _⟩ := h1
    obtain ⟨a2, c2, q3, _, _, _, q4, q5⟩ := h2
    obtain ⟨rfl, rfl⟩ := q2 rfl
    rw [q1, q3]
    refine ⟨?_, eqGuard_scalar _ _ _ _ (by simp) (by simp), by simp, by simp, by simp, by simp⟩
    cases r with
    | true => obtain ⟨rfl, _⟩ := q4 rfl; simp [Op.equalIn, run_underlying hu]
    | false => obtain ⟨b', o', ad', rfl, _⟩ := q5 rfl; simp [Op.equalIn, run_underlying hu]
  · rename_i p q id g of ln es cp e1 e2
    rw [e1] at h1; rw [e2] at h2; unfold VRel at h1 h2; cases hv
    obtain ⟨e, hu⟩ := hk
    obtain ⟨a1, c1, q1, _, _, _, q2, _⟩ := h1
    obtain ⟨_, _, _, _, _, _, _, q3, _⟩ := h2
    obtain ⟨rfl, rfl⟩ := q2 rfl
    rw [q1, q3]
    exact ⟨by simp [Op.equalIn, run_underlying hu], eqGuard_scalar _ _ _ _ (by simp) (by simp), by simp, by simp, by simp, by simp⟩
  · rename_i p q s d e1 e2
    rw [e1] at h1; rw [e2] at h2; unfold VRel at h1 h2; cases hv
    obtain ⟨e, hu⟩ := hk
    obtain ⟨a1, c1, q1, _, _, _, _, q5⟩ := h1
    obtain ⟨a2, c2, q3, _, _, _, q4, _⟩ := h2
    obtain ⟨rfl, rfl⟩ := q4 rfl
    obtain ⟨b', o', ad', rfl, _⟩ := q5 rfl
    rw [q1, q3]
    exact ⟨by simp [Op.equalIn, run_underlying hu], eqGuard_scalar _ _ _ _ (by simp) (by simp), by simp, by simp, by simp, by simp⟩
  · rename_i id g of ln es cp p q e1 e2
    rw [e1] at h1; rw [e2] at h2; unfold VRel at h1 h2; cases hv
    obtain ⟨e, hu⟩ := hk
    obtain ⟨a2, c2, q3, _, _, _, q4, _⟩ := h2
    obtain ⟨_, _, _, _, _, _, _, q1, _⟩ := h1
    obtain ⟨rfl, rfl⟩ := q4 rfl
    rw [q1, q3]
    exact ⟨by simp [Op.equalIn, run_underlying hu], eqGuard_scalar _ _ _ _ (by simp) (by simp), by simp, by simp, by simp, by simp⟩
  · rename_i e1 e2
    rw [e1] at h1; rw [e2] at h2; unfold VRel at h1 h2; cases hv
    obtain ⟨k, e, hu⟩ := hk
    rw [h1, h2]
    exact ⟨by simp [Op.equalIn, run_underlying hu], eqGuard_scalar _ _ _ _ (by simp) (by simp), by simp, by simp, by simp, by simp⟩
  · rename_i id e1 e2
    rw [e1] at h1; rw [e2] at h2; unfold VRel at h1 h2; cases hv
    obtain ⟨k, e, hu⟩ := hk
    obtain ⟨b, _, q1⟩ := h1
    rw [q1, h2]
    exact ⟨by simp [Op.equalIn, run_underlying hu], eqGuard_scalar _ _ _ _ (by simp) (by simp), by simp, by simp, by simp, by simp⟩
  · rename_i e1 e2
    rw [e1] at h1; rw [e2] at h2; unfold VRel at h1 h2; cases hv
    obtain ⟨k, e, w, hu⟩ := hk
    rw [h1, h2]
    exact ⟨by simp [Op.equalIn, run_underlying hu], eqGuard_scalar _ _ _ _ (by simp) (by simp), by simp, by simp, by simp, by simp⟩
  · rename_i f fi cp e1 e2
    rw [e1] at h1; rw [e2] at h2; unfold VRel at h1 h2; cases hv
    obtain ⟨k, e, w, hu⟩ := hk
    obtain ⟨g, cf, cc, q1, _⟩ := h1
    rw [q1, h2]
    exact ⟨by simp [Op.equalIn, run_underlying hu], eqGuard_scalar _ _ _ _ (by simp) (by simp), by simp, by simp, by simp, by simp⟩
  · rename_i e1 e2
    rw [e1] at h1; rw [e2] at h2; unfold VRel at h1 h2; cases hv
    obtain ⟨ms, hu, hn⟩ := hk
    rw [h1, h2]
    exact ⟨by simp [Op.equalIn, run_underlying hu], eqGuard_nil hn, by simp, by simp, by simp, by simp⟩
  · rename_i t' v' e1 e2
    rw [e1] at h1; rw [e2] at h2; unfold VRel at h1 h2; cases hv
    obtain ⟨ms, hu, hn⟩ := hk
    obtain ⟨c', q1, _⟩ := h2
    rw [h1, q1]
    exact ⟨by simp [Op.equalIn, run_underlying hu], eqGuard_scalar _ _ _ _ (by simp) (by simp), by simp, by simp, by simp, by simp⟩
  · rename_i t' v' e1 e2
    rw [e1] at h1; rw [e2] at h2; unfold VRel at h1 h2; cases hv
    obtain ⟨ms, hu, hn⟩ := hk
    obtain ⟨c', q1, _⟩ := h1
    rw [h2, q1]
    exact ⟨by simp [Op.equalIn, run_underlying hu], eqGuard_scalar _ _ _ _ (by simp) (by simp), by simp, by simp, by simp, by simp⟩

end Go.Ev
/- Slices, indexes, composites. -/
namespace Go.Ev
open Go
variable {E : Env} {X : Ctx} {env : List V} {a : Act} {o : Oper} {H : Heap} {bar : Nat}

/-! ### conversions without memory -/
theorem convInt_ok (he : LRel X env a.tmps.toList) (hg : Glob E X) {s d : TypeId} {x : Operand} {r : Rd} {k k0 : IntKind} (ho : o.op = .convert s d x) (hr : lowR E x = some r) (hs : E.P.underlying s = some (.int k0)) (hd : E.P.underlying d = some (.int k))
    {k1 : IntKind} {n : Int} (hl : r.ev env = .int k1 n) : Gives E X a o (.int k (k.wrap n)) := by
  have h := lowR_rel he hg hr
  rw [hl] at h
  unfold VRel at h
  exact ⟨_, by simp [execOp, ho, convert, run_underlying hs, run_underlying hd, h, Conv.intToInt]; rfl, by unfold VRel; rfl⟩

theorem convSame_ok (he : LRel X env a.tmps.toList) (hg : Glob E X) {s d : TypeId} {x : Operand} {r : Rd} (ho : o.op = .convert s d x) (hr : lowR E x = some r) (hs : E.P.underlying s = some .string) (hd : E.P.underlying d = some .string)
    {v : V} {l : List UInt8} (hl : r.ev env = .str l) : Gives E X a o (.str l) := by
  have h := lowR_rel he hg hr
  rw [hl] at h
  have h' := h
  unfold VRel at h
  exact ⟨_, by simp [execOp, ho, convert, run_underlying hs, run_underlying hd, h]; rfl, by unfold VRel; rfl⟩

theorem convIntStr_ok (he : LRel X env a.tmps.toList) (hg : Glob E X) {s d : TypeId} {x : Operand} {r : Rd} {k0 : IntKind} (ho : o.op = .convert s d x) (hr : lowR E x = some r) (hs : E.P.underlying s = some (.int k0)) (hd : E.P.underlying d = some .string)
    {k : IntKind} {n : Int} (hl : r.ev env = .int k n) : Gives E X a o (.str (Utf8.encode n).data.toList) := by
  have h := lowR_rel he hg hr
  rw [hl] at h
  unfold VRel at h
  exact ⟨_, by simp [execOp, ho, convert, run_underlying hs, run_underlying hd, h, Conv.intToString]; rfl, by unfold VRel; simp⟩

/-! ### bounds -/
def ORel (X : Ctx) : Option V → Option Value → Prop
  | none, c => c = none
  | some v, c => ∃ d, c = some d ∧ VRel X v d

theorem bound_ok {P : Program} {w : World} {code : BoundsCode} {v : V} {c : Value} (hc : VRel X v c) {d most n : Nat} (h : bound (some v) d most = some n) : (Instr.sliceBound c most code).run P w = .ok n w ∧ n ≤ most := by
  unfold bound at h
  split at h
  · cases ‹some v = none›
  · rename_i i e
    cases e
    unfold VRel at hc
    subst hc
    split at h
    · rename_i hi
      cases h
      exact ⟨by simp [Instr.sliceBound, asIntOf, hi], by omega⟩
    · cases h
  · cases h

theorem bounds_inv {n cap : Nat} {lo hi mx : Option V} {l h m : Nat} (hb : bounds n cap lo hi mx = some (l, h, m)) :
    ¬ (mx ≠ none ∧ hi = none) ∧ bound mx cap cap = some m ∧ bound hi n m = some h ∧ bound lo 0 h = some l := by
  unfold bounds at hb
  split at hb
  · cases hb
  · rename_i hne
    cases h1 : bound mx cap cap with
    | none => rw [h1] at hb; cases hb
    | some m1 =>
      rw [h1] at hb
      dsimp only at hb
      cases h2 : bound hi n m1 with
      | none => rw [h2] at hb; cases hb
      | some h3 =>
        rw [h2] at hb
        dsimp only at hb
        cases h4 : bound lo 0 h3 with
        | none => rw [h4] at hb; cases hb
        | some l1 =>
          rw [h4] at hb
          cases hb
          refine ⟨fun ⟨q1, q2⟩ => ?_, rfl, h2, h4⟩
          cases mx with
          | none => exact q1 rfl
          | some v => exact hne v rfl q2

theorem bound_more {v : V} {d d' most most' n : Nat} (h : bound (some v) d most = some n) (hle : most ≤ most') : bound (some v) d' most' = some n := by
  unfold bound at h ⊢
  cases v with
  | int k i =>
    dsimp only at h ⊢
    split at h
    · rename_i hi
      rw [if_pos ⟨hi.1, by omega⟩]
      exact h
    · cases h
  | _ => cases h

theorem bounds_ok {P : Program} {w : World} {isSlice : Bool} {n cap ccap : Nat} {lo hi mx : Option V} {clo chi cmx : Option Value} (h1 : ORel X lo clo) (h2 : ORel X hi chi) (h3 : ORel X mx cmx) {l h m : Nat} (hb : bounds n cap lo hi mx = some (l, h, m))
    (hcap : cap ≤ ccap) (hn : n ≤ cap) :
    ∃ m', (Instr.sliceBounds isSlice n ccap clo chi cmx).run P w = .ok (l, h, m') w ∧ l ≤ h ∧ h ≤ m ∧ m ≤ cap ∧ (mx = none → m' = ccap ∧ m = cap) ∧ (mx ≠ none → m' = m) := by
  obtain ⟨hne, b1, b2, b3⟩ := bounds_inv hb
  have low : ∀ code, (match clo with | some v => Instr.sliceBound v h code | none => pure 0 : Sem Nat).run P w = .ok l w ∧ l ≤ h := by
    intro code
    cases lo with
    | none => unfold ORel at h1; subst h1; simp [bound] at b3; subst b3; exact ⟨rfl, Nat.zero_le _⟩
    | some v => obtain ⟨d, rfl, hd⟩ := h1; exact bound_ok hd b3
  cases mx with
  | none =>
    unfold ORel at h3
    subst h3
    simp only [bound, Option.some.injEq] at b1
    subst b1
    cases hi with
    | none =>
      unfold ORel at h2
      subst h2
      simp only [bound, Option.some.injEq] at b2
      subst b2
      obtain ⟨q, q'⟩ := low .sliceB
      refine ⟨ccap, ?_, q', hn, Nat.le_refl _, fun _ => ⟨rfl, rfl⟩, by simp⟩
      simp only [Instr.sliceBounds, Sem.run_bind, Sem.run_pure, Result.andThen_ok]
      simp only [Option.isSome_none, Bool.false_eq_true, if_false]
      clear low h1
      cases clo <;> simp_all
    | some hi =>
      obtain ⟨d2, rfl, hd2⟩ := h2
      obtain ⟨q1, _⟩ := bound_ok (P := P) (w := w) (code := if isSlice then .sliceAcap else .sliceAlen) hd2 (bound_more (d' := 0) b2 hcap)
      have hle := (bound_ok (P := P) (w := w) (code := .sliceB) hd2 b2).2
      obtain ⟨q, q'⟩ := low .sliceB
      refine ⟨ccap, ?_, q', hle, Nat.le_refl _, fun _ => ⟨rfl, rfl⟩, by simp⟩
      simp only [Instr.sliceBounds, Sem.run_bind, Sem.run_pure, Result.andThen_ok, q1]
      simp only [Option.isSome_none, Bool.false_eq_true, if_false]
      clear low h1
      cases clo <;> simp_all
  | some mx =>
    obtain ⟨d3, rfl, hd3⟩ := h3
    obtain ⟨q5, _⟩ := bound_ok (P := P) (w := w) (code := if isSlice then .slice3Acap else .slice3Alen) hd3 (bound_more (d' := 0) b1 hcap)
    have hle3 := (bound_ok (P := P) (w := w) (code := .sliceB) hd3 b1).2
    cases hi with
    | none => exact absurd ⟨by simp, rfl⟩ hne
    | some hi =>
      obtain ⟨d2, rfl, hd2⟩ := h2
      obtain ⟨q1, hle⟩ := bound_ok (P := P) (w := w) (code := .slice3B) hd2 b2
      obtain ⟨q, q'⟩ := low .slice3C
      refine ⟨m, ?_, q', hle, hle3, by simp, by simp⟩
      simp only [Instr.sliceBounds, Sem.run_bind, Sem.run_pure, Result.andThen_ok, q5, q1]
      simp only [Option.isSome_some, if_true]
      clear low h1
      cases clo <;> simp_all

theorem lowO_rel (he : LRel X env a.tmps.toList) (hg : Glob E X) {x : Option Operand} {r : Option Rd} (h : lowO E x = some r) : ORel X (r.map (·.ev env)) (x.map a.eval) := by
  cases x with
  | none => cases h; rfl
  | some x =>
    simp only [lowO, Option.map_eq_some_iff] at h
    obtain ⟨q, hq, rfl⟩ := h
    exact ⟨_, rfl, lowR_rel he hg hq⟩

end Go.Ev
/- Slices, indexes, composites. -/
namespace Go.Ev
open Go
variable {E : Env} {X : Ctx} {env : List V} {a : Act} {o : Oper} {H : Heap} {bar : Nat}

theorem addr_add (b o n : Nat) : (⟨b, o, none⟩ : Addr).add n = ⟨b, o + n, none⟩ := by
  unfold Addr.add
  split
  · simp_all
  · rfl

/-! ### slicing -/
theorem sliceStr_ok (he : LRel X env a.tmps.toList) (hg : Glob E X) {t : TypeId} {x : Operand} {lo hi mx : Option Operand} {rx : Rd} {rl rh rm : Option Rd} (ho : o.op = .slice t x lo hi mx) (hx : lowR E x = some rx) (hl : lowO E lo = some rl) (hh : lowO E hi = some rh) (hm : lowO E mx = some rm)
    (hu : E.P.underlying t = some .string) {v : V} (hv : sliceV .str (rx.ev env) (rl.map (·.ev env)) (rh.map (·.ev env)) (rm.map (·.ev env)) = some v) : Gives E X a o v := by
  have h := lowR_rel he hg hx
  unfold sliceV at hv
  split at hv
  · rename_i s e0 e
    rw [e] at h; unfold VRel at h
    split at hv
    · rename_i hmx hb
      cases hv
      cases rm with
      | some _ => simp at hmx
      | none =>
        cases mx with
        | some _ => simp [lowO] at hm
        | none =>
          obtain ⟨m', q, h1, h2, h3, _⟩ := bounds_ok (P := E.P) (w := X.w) (isSlice := false) (n := s.length) (ccap := s.length) (lowO_rel he hg hl) (lowO_rel he hg hh) (mx := none) (cmx := none) rfl hb (Nat.le_refl _) (Nat.le_refl _)
          rename_i l h' _ _
          refine ⟨.string ((⟨s.toArray⟩ : ByteArray).extract l h'), ?_, ?_⟩
          · have hsz : (⟨s.toArray⟩ : ByteArray).size = s.length := by simp [ByteArray.size]
            simp [execOp, ho, Instr.sliceAt, Instr.slice, run_underlying hu, h, hsz, q]
          · unfold VRel
            congr 1
            apply ByteArray.ext
            apply Array.ext'
            simp only [ByteArray.data_extract, Array.toList_extract, List.extract_eq_take_drop, List.drop_take]
    · cases hv
  · simp_all
  · simp_all
  · cases hv

theorem sliceSl_ok (he : LRel X env a.tmps.toList) (hg : Glob E X) {t el : TypeId} {es : Nat} {x : Operand} {lo hi mx : Option Operand} {rx : Rd} {rl rh rm : Option Rd} (ho : o.op = .slice t x lo hi mx) (hx : lowR E x = some rx) (hl : lowO E lo = some rl) (hh : lowO E hi = some rh) (hm : lowO E mx = some rm)
    (hu : E.P.underlying t = some (.slice el)) (hs : szOf E el = some es) {v : V} (hv : sliceV (.sl es) (rx.ev env) (rl.map (·.ev env)) (rh.map (·.ev env)) (rm.map (·.ev env)) = some v) : Gives E X a o v := by
  have h := lowR_rel he hg hx
  have h1 := lowO_rel he hg hl
  have h2 := lowO_rel he hg hh
  have h3 := lowO_rel he hg hm
  generalize rl.map (·.ev env) = vl at hv h1
  generalize rh.map (·.ev env) = vh at hv h2
  generalize rm.map (·.ev env) = vm at hv h3
  have run : ∀ (ad : Option Addr) (len cap l h' m' : Nat), a.eval x = .slice ad len cap → (Instr.sliceBounds true len cap (lo.map a.eval) (hi.map a.eval) (mx.map a.eval)).run E.P X.w = .ok (l, h', m') X.w →
      (execOp a.eval o).run E.P X.w = .ok (.value (.slice (if m' = l then ad else ad.map (·.add (l * es))) (h' - l) (m' - l))) X.w := by
    intro ad len cap l h' m' e q
    simp [execOp, ho, Instr.sliceAt, Instr.slice, run_underlying hu, e, q, run_sizeOf_sz hs]
  unfold sliceV at hv
  split at hv
  · simp_all
  · rename_i es' n c rows e1 e2
    cases e1
    rw [e2] at h; unfold VRel at h
    obtain ⟨ad, ccap, q, hle, hk, huni, hn, hnn⟩ := h
    split at hv
    · rename_i l h' m hb
      split at hv
      · rename_i hes
        cases hv
        obtain ⟨m', hr, b1, b2, b3, b4, b5⟩ := bounds_ok (P := E.P) (w := X.w) (isSlice := true) (ccap := ccap) h1 h2 h3 hb hle (Nat.le_refl _)
        refine ⟨_, run _ _ _ _ _ _ q hr, ?_⟩
        have hlen : ((rows.take h').drop l).length = h' - l := by simp; omega
        have hmle : h' - l ≤ m' - l := by
          cases vm with
          | none => have := b4 rfl; omega
          | some _ => have := b5 (by simp); omega
        unfold VRel
        rw [hlen]
        have hall : ∀ r ∈ rows, r.length = es := rowsOk_all huni hes
        refine ⟨_, _, rfl, hmle, ?_, ⟨es, fun r hr => hall r (List.mem_of_mem_take (List.mem_of_mem_drop hr))⟩, ?_, ?_⟩
        · intro k hc
          cases vm with
          | none =>
            obtain ⟨rfl, rfl⟩ := b4 rfl
            simp only [capOr, Option.map_eq_some_iff] at hc
            obtain ⟨c', hc', rfl⟩ := hc
            rw [hk c' hc']
          | some _ =>
            have := b5 (by simp)
            simp only [capOr, Option.some.injEq] at hc
            omega
        · intro en
          obtain ⟨rfl, rfl⟩ := hn en
          refine ⟨by simp, ?_⟩
          have : rows.length = 0 := by omega
          cases vm with
          | none => have := b4 rfl; omega
          | some _ => have := b5 (by simp); omega
        · intro en
          obtain ⟨b, ob, ad0, rfl, hx0, hr⟩ := hnn en
          by_cases hml : m' = l
          · have : (rows.take h').drop l = [] := by
              apply List.eq_nil_of_length_eq_zero
              rw [hlen]; omega
            refine ⟨b, ob, ad0, by simp [hml], fun h => absurd this h, ?_⟩
            rw [this]; unfold RRel; trivial
          · refine ⟨b, ob + l * es, ad0.add (l * es), by simp [hml], fun hne => ?_, ?_⟩
            · have : rows ≠ [] := by
                intro e; subst e; exact hne (by simp)
              rw [hx0 this, addr_add]
            apply RRel.of_flat
            have hfl := hr.flat
            have e1 : ((rows.take h').drop l).flatten = ((rows.flatten).drop (l * es)).take ((h' - l) * es) := by
              have ht : rows = rows.take l ++ ((rows.take h').drop l ++ rows.drop h') := by
                rw [← List.append_assoc]
                have : rows.take l = (rows.take h').take l := by rw [List.take_take]; congr 1; omega
                rw [this, List.take_append_drop, List.take_append_drop]
              conv => rhs; rw [ht]
              rw [List.flatten_append, List.flatten_append]
              have l1 : (rows.take l).flatten.length = l * es := by
                rw [flatten_len (fun r hr => hall r (List.mem_of_mem_take hr)), List.length_take]
                congr 1; omega
              have l2 : ((rows.take h').drop l).flatten.length = (h' - l) * es := by
                rw [flatten_len (fun r hr => hall r (List.mem_of_mem_take (List.mem_of_mem_drop hr))), hlen]
              rw [List.drop_left' l1, List.take_left' l2]
            rw [e1]
            exact (hfl.drop _).take _
      · cases hv
    · cases hv
  · rename_i es' id g off len es2 c e1 e2
    cases e1
    rw [e2] at h; unfold VRel at h
    obtain ⟨b, ob, gg, ad, ccap, hρ, hgg, q, hle, hk, hm⟩ := h
    split at hv
    · rename_i hes
      subst hes
      split at hv
      · rename_i l h' m hb
        cases hv
        have hcd : c.getD len ≤ ccap := by
          cases c with
          | none => simpa using hle
          | some k => simp [hk k rfl]
        have hld : len ≤ c.getD len := by
          cases c with
          | none => simp
          | some k => have := hk k rfl; simp; omega
        obtain ⟨m', hr, b1, b2, b3, b4, b5⟩ := bounds_ok (P := E.P) (w := X.w) (isSlice := true) (ccap := ccap) h1 h2 h3 hb hcd hld
        have hm' : m' ≤ ccap ∧ h' - l ≤ m' - l := by
          cases vm with
          | none => have := b4 rfl; omega
          | some _ => have := b5 (by simp); omega
        refine ⟨_, run _ _ _ _ _ _ q hr, ?_⟩
        unfold VRel
        refine ⟨b, ob, gg, if m' = l then ad else ad.add (l * es2), m' - l, hρ, hgg, ?_, hm'.2, ?_, ?_⟩
        · split <;> rfl
        · intro k hc
          cases vm with
          | none =>
            obtain ⟨rfl, rfl⟩ := b4 rfl
            simp only [capOr, Option.map_eq_some_iff] at hc
            obtain ⟨c', hc', rfl⟩ := hc
            rw [hk c' hc']
          | some _ =>
            have := b5 (by simp)
            simp only [capOr, Option.some.injEq] at hc
            omega
        · intro eg
          obtain ⟨hp, arr, el', fr, hb', hsz⟩ := hm eg
          refine ⟨fun hpos => ?_, arr, el', fr, hb', ?_⟩
          · rw [if_neg (by omega), hp (by omega), addr_add]
            congr 1
            omega
          · have hmul : l * es2 + (m' - l) * es2 ≤ ccap * es2 := by
              by_cases hlm : l ≤ m'
              · rw [← Nat.add_mul]; exact Nat.mul_le_mul_right _ (by omega)
              · have : m' - l = 0 := by omega
                have hl2 : l ≤ ccap := by omega
                rw [this]; simp; exact Nat.mul_le_mul_right _ hl2
            omega
      · cases hv
    · cases hv
  · cases hv

/-! ### an element's address, an element -/
theorem run_indexAt_slice (x i : Operand) {t el : TypeId} {es : Nat} (ho : o.op = .indexAddr t x i) (hu : E.P.underlying t = some (.slice el)) (hs : szOf E el = some es) {ad : Addr} {len cap : Nat} (hx : a.eval x = .slice (some ad) len cap) {k : IntKind} {n : Int} (hi : a.eval i = .int k n) (h0 : 0 ≤ n) (h1 : n < len) :
    (execOp a.eval o).run E.P X.w = .ok (.value (.pointer (some (ad.add (n.toNat * es))))) X.w := by
  simp [execOp, ho, Instr.indexAt, run_underlying hu, hx, hi, asIntOf, h0, h1, run_sizeOf_sz hs]

theorem ixaddrSl_ok (he : LRel X env a.tmps.toList) (hg : Glob E X) {t el : TypeId} {es : Nat} {x i : Operand} {rx ri : Rd} (ho : o.op = .indexAddr t x i) (hx : lowR E x = some rx) (hi : lowR E i = some ri) (hu : E.P.underlying t = some (.slice el)) (hs : szOf E el = some es) {v : V}
    (hv : ixaddrV (.sl es) (rx.ev env) (ri.ev env) = some v) : Gives E X a o v := by
  have h := lowR_rel he hg hx
  have h2 := lowR_rel he hg hi
  unfold ixaddrV at hv
  split at hv
  · rename_i es' n c rows k m e1 e2 e3
    cases e1
    rw [e2] at h; rw [e3] at h2; unfold VRel at h h2
    obtain ⟨ad, ccap, q, hle, hk, ⟨es0, huni⟩, hn, hnn⟩ := h
    split at hv
    · rename_i h0
      simp only [Option.bind_eq_some_iff] at hv
      obtain ⟨r, hr, hv⟩ := hv
      split at hv
      · rename_i hre
        cases hv
        have hlt : m.toNat < rows.length := (List.getElem?_eq_some_iff.1 hr).1
        cases n with
        | true => have := hn rfl; omega
        | false =>
          obtain ⟨b, ob, ad0, rfl, hx0, hrr⟩ := hnn rfl
          have hne : rows ≠ [] := by
            intro e; subst e; simp at hlt
          cases hx0 hne
          refine ⟨_, run_indexAt_slice x i ho hu hs q h2 h0 (by omega), ?_⟩
          rw [addr_add]
          unfold VRel
          refine ⟨b, ob + m.toNat * es, rfl, ?_⟩
          have hee : es0 = es := by rw [← hre, huni r (List.mem_of_getElem? hr)]
          exact RRel.row m.toNat hrr (fun j r' _ hj => by rw [huni r' (List.mem_of_getElem? hj), hee]) r hr
      · cases hv
    · cases hv
  · rename_i es' id g off len es2 c k m e1 e2 e3
    cases e1
    rw [e2] at h; rw [e3] at h2; unfold VRel at h h2
    obtain ⟨b, ob, gg, ad, ccap, hρ, hgg, q, hle, hk, hm⟩ := h
    split at hv
    · rename_i hc
      obtain ⟨rfl, h0, h1⟩ := hc
      cases hv
      refine ⟨_, run_indexAt_slice x i ho hu hs q h2 h0 h1, ?_⟩
      unfold VRel
      refine ⟨b, ob, gg, _, hρ, hgg, rfl, fun eg => ?_⟩
      rw [(hm eg).1 (by omega), addr_add]
      congr 1
      omega
    · cases hv
  · simp_all
  · simp_all
  · cases hv

end Go.Ev
/- Elements, composites, lengths. -/
namespace Go.Ev
open Go
variable {E : Env} {X : Ctx} {env : List V} {a : Act} {o : Oper} {H : Heap} {bar : Nat}

theorem run_indexAt_arr (x i : Operand) {t el : TypeId} {es len : Nat} (ho : o.op = .indexAddr t x i) (hu : E.P.underlying t = some (.array len el)) (hs : szOf E el = some es) {ad : Addr} (hx : a.eval x = .pointer (some ad)) {k : IntKind} {n : Int} (hi : a.eval i = .int k n) (h0 : 0 ≤ n) (h1 : n < len) :
    (execOp a.eval o).run E.P X.w = .ok (.value (.pointer (some (ad.add (n.toNat * es))))) X.w := by
  simp [execOp, ho, Instr.indexAt, run_underlying hu, hx, hi, asIntOf, h0, h1, run_sizeOf_sz hs, Instr.sureAddr]

theorem ixaddrArr_ok (he : LRel X env a.tmps.toList) (hg : Glob E X) {t el : TypeId} {es len : Nat} {x i : Operand} {rx ri : Rd} (ho : o.op = .indexAddr t x i) (hx : lowR E x = some rx) (hi : lowR E i = some ri) (hu : E.P.underlying t = some (.array len el)) (hs : szOf E el = some es) {v : V}
    (hv : ixaddrV (.arr len es) (rx.ev env) (ri.ev env) = some v) : Gives E X a o v := by
  have h := lowR_rel he hg hx
  have h2 := lowR_rel he hg hi
  unfold ixaddrV at hv
  split at hv
  · simp_all
  · simp_all
  · rename_i n es' id g off k m e1 e2 e3
    cases e1
    rw [e2] at h; rw [e3] at h2; unfold VRel at h h2
    obtain ⟨b, ob, gg, ad, hρ, hgg, q, hm⟩ := h
    split at hv
    · rename_i hc
      cases hv
      refine ⟨_, run_indexAt_arr x i ho hu hs q h2 hc.1 hc.2, ?_⟩
      unfold VRel
      refine ⟨b, ob, gg, _, hρ, hgg, rfl, fun eg => ?_⟩
      rw [hm eg, addr_add]
      congr 1
      omega
    · cases hv
  · rename_i n es' cs off k m e1 e2 e3
    cases e1
    rw [e2] at h; rw [e3] at h2; unfold VRel at h h2
    obtain ⟨b, ob, q, hm⟩ := h
    split at hv
    · rename_i hc
      cases hv
      refine ⟨_, run_indexAt_arr x i ho hu hs q h2 hc.1 hc.2, ?_⟩
      unfold VRel
      refine ⟨b, ob, ?_, hm⟩
      rw [addr_add]
      congr 3
      omega
    · cases hv
  · cases hv

theorem idxStr_ok (he : LRel X env a.tmps.toList) (hg : Glob E X) {t : TypeId} {l : Lk} {x i : Operand} {rx ri : Rd} (ho : o.op = .index t x i) (hx : lowR E x = some rx) (hi : lowR E i = some ri) (hu : E.P.underlying t = some .string) {v : V}
    (hv : idxV .str l (rx.ev env) (ri.ev env) = some v) : Gives E X a o v := by
  have h := lowR_rel he hg hx
  have h2 := lowR_rel he hg hi
  unfold idxV at hv
  split at hv
  · rename_i s k m e1 e2 e3
    rw [e2] at h; rw [e3] at h2; unfold VRel at h h2
    split at hv
    · rename_i h0
      simp only [Option.map_eq_some_iff] at hv
      obtain ⟨c, hc, rfl⟩ := hv
      have hc' : (⟨s.toArray⟩ : ByteArray)[m.toNat]? = some c := by
        have hlt := (List.getElem?_eq_some_iff.1 hc).1
        have hlt' : m.toNat < (⟨s.toArray⟩ : ByteArray).size := by simpa [ByteArray.size] using hlt
        have hge := (List.getElem?_eq_some_iff.1 hc).2
        rw [getElem?_pos (⟨s.toArray⟩ : ByteArray) m.toNat hlt']
        congr 1
      refine ⟨.int .u8 c.toNat, ?_, by unfold byteV VRel; rfl⟩
      simp [execOp, ho, Instr.index, run_underlying hu, h, h2, asIntOf, h0, hc']
    · cases hv
  · simp_all
  · cases hv

theorem idxArr_ok (he : LRel X env a.tmps.toList) (hg : Glob E X) {t el : TypeId} {es len : Nat} {l : Lk} {x i : Operand} {rx ri : Rd} (ho : o.op = .index t x i) (hx : lowR E x = some rx) (hi : lowR E i = some ri) (hu : E.P.underlying t = some (.array len el)) (hs : szOf E el = some es) (hl : lkOf E el = some l) {v : V}
    (hv : idxV (.arr len es) l (rx.ev env) (ri.ev env) = some v) : Gives E X a o v := by
  have h := lowR_rel he hg hx
  have h2 := lowR_rel he hg hi
  unfold idxV at hv
  split at hv
  · simp_all
  · rename_i n es' cs k m e1 e2 e3
    cases e1
    rw [e2] at h; rw [e3] at h2; unfold VRel at h h2
    obtain ⟨lv, q, hlr, hp⟩ := h
    split at hv
    · rename_i hc
      obtain ⟨c, q1, q2⟩ := part_ok hl hlr hp hv
      refine ⟨c, ?_, q2⟩
      simp [execOp, ho, Instr.index, run_underlying hu, q, h2, asIntOf, hc, run_sizeOf_sz hs, q1]
    · cases hv
  · cases hv

/-! ### composites -/
theorem splice_rel {cs xs : List V} {lc lx : List Value} (h : LRel X cs lc) (k : LRel X xs lx) (off : Nat) : LRel X (Zdb cs off xs) (lc.take off ++ lx ++ lc.drop (off + lx.length)) := by
  unfold Zdb
  rw [k.length]
  exact ((h.take off).append k).append (h.drop _)

/-- The value's cells. -/
theorem cells_rel {v : V} {c : Value} (h : VRel X v c) (ht : Zdp v = false) : LRel X (Zbt v) c.cells.toList ∧ ∀ x ∈ c.cells.toList, plainC x := by
  cases v with
  | agg cs =>
    have h' := h
    unfold VRel at h
    obtain ⟨l, rfl, hl, hp⟩ := h
    exact ⟨hl, hp⟩
  | tup _ => cases ht
  | bool _ => unfold VRel at h; subst h; exact ⟨LRel.cons (by unfold VRel; rfl) LRel.nil, by simp [Value.cells, plainC]⟩
  | int _ _ => unfold VRel at h; subst h; exact ⟨LRel.cons (by unfold VRel; rfl) LRel.nil, by simp [Value.cells, plainC]⟩
  | str _ => unfold VRel at h; subst h; exact ⟨LRel.cons (by unfold VRel; rfl) LRel.nil, by simp [Value.cells, plainC]⟩
  | nilp => unfold VRel at h; subst h; exact ⟨LRel.cons (by unfold VRel; rfl) LRel.nil, by simp [Value.cells, plainC]⟩
  | nilf => unfold VRel at h; subst h; exact ⟨LRel.cons (by unfold VRel; rfl) LRel.nil, by simp [Value.cells, plainC]⟩
  | nilm => unfold VRel at h; subst h; exact ⟨LRel.cons (by unfold VRel; rfl) LRel.nil, by simp [Value.cells, plainC]⟩
  | nili => unfold VRel at h; subst h; exact ⟨LRel.cons (by unfold VRel; rfl) LRel.nil, by simp [Value.cells, plainC]⟩
  | vec _ _ _ => have h' := h; unfold VRel at h; obtain ⟨_, _, rfl, _⟩ := h; exact ⟨LRel.cons h' LRel.nil, by simp [Value.cells, plainC]⟩
  | own _ _ _ _ _ _ => have h' := h; unfold VRel at h; obtain ⟨_, _, _, _, _, _, _, rfl, _⟩ := h; exact ⟨LRel.cons h' LRel.nil, by simp [Value.cells, plainC]⟩
  | ptr _ _ _ => have h' := h; unfold VRel at h; obtain ⟨_, _, _, _, _, _, rfl, _⟩ := h; exact ⟨LRel.cons h' LRel.nil, by simp [Value.cells, plainC]⟩
  | fp _ _ => have h' := h; unfold VRel at h; obtain ⟨_, _, rfl, _⟩ := h; exact ⟨LRel.cons h' LRel.nil, by simp [Value.cells, plainC]⟩
  | fn _ _ _ => have h' := h; unfold VRel at h; obtain ⟨_, _, _, rfl, _⟩ := h; exact ⟨LRel.cons h' LRel.nil, by simp [Value.cells, plainC]⟩
  | map _ => have h' := h; unfold VRel at h; obtain ⟨_, _, rfl⟩ := h; exact ⟨LRel.cons h' LRel.nil, by simp [Value.cells, plainC]⟩
  | it _ => have h' := h; unfold VRel at h; obtain ⟨_, _, rfl⟩ := h; exact ⟨LRel.cons h' LRel.nil, by simp [Value.cells, plainC]⟩
  | iface _ _ => have h' := h; unfold VRel at h; obtain ⟨_, rfl, _⟩ := h; exact ⟨LRel.cons h' LRel.nil, by simp [Value.cells, plainC]⟩

theorem foldl_set_get : ∀ (l : List Value) (cs : Array Value) (off j k : Nat), off + j + l.length ≤ cs.size →
    ((l.zipIdx j).foldl (fun cs (c, j) => cs.setIfInBounds (off + j) c) cs)[k]? = if off + j ≤ k ∧ k < off + j + l.length then l[k - (off + j)]? else cs[k]?
  | [], cs, off, j, k, _ => by
    rw [if_neg (by simp only [List.length_nil]; omega)]
    simp
  | c :: l, cs, off, j, k, h => by
    simp only [List.length_cons] at h
    rw [List.zipIdx_cons, List.foldl_cons, foldl_set_get l _ off (j + 1) k (by simp; omega)]
    simp only [List.length_cons]
    by_cases h1 : k = off + j
    · subst h1
      rw [if_neg (by omega), if_pos (by omega), Array.getElem?_setIfInBounds_self_of_lt (by omega)]
      simp
    · by_cases h2 : off + (j + 1) ≤ k ∧ k < off + (j + 1) + l.length
      · rw [if_pos h2, if_pos (by omega), show k - (off + j) = (k - (off + (j + 1))) + 1 from by omega, List.getElem?_cons_succ]
      · rw [if_neg h2, if_neg (by omega), Array.getElem?_setIfInBounds_ne (by omega)]

theorem foldl_set_size : ∀ (l : List (Value × Nat)) (cs : Array Value) (off : Nat), (l.foldl (fun cs (c, j) => cs.setIfInBounds (off + j) c) cs).size = cs.size
  | [], cs, off => rfl
  | (c, j) :: l, cs, off => by rw [List.foldl_cons, foldl_set_size l _ off]; simp

theorem foldl_set (l : List Value) (cs : Array Value) (off : Nat) (h : off + l.length ≤ cs.size) :
    (l.zipIdx.foldl (fun cs (c, j) => cs.setIfInBounds (off + j) c) cs).toList = cs.toList.take off ++ l ++ cs.toList.drop (off + l.length) := by
  apply List.ext_getElem?
  intro k
  rw [Array.getElem?_toList, foldl_set_get l cs off 0 k (by omega)]
  simp only [Nat.add_zero]
  by_cases h1 : off ≤ k ∧ k < off + l.length
  · rw [if_pos h1, List.append_assoc, List.getElem?_append_right (by simp; omega), List.getElem?_append_left (by simp; omega)]
    congr 1
    simp
    omega
  · rw [if_neg h1]
    by_cases h2 : k < off
    · rw [List.append_assoc, List.getElem?_append_left (by simp; omega), List.getElem?_take_of_lt h2, Array.getElem?_toList]
    · rw [List.getElem?_append_right (by simp; omega), List.getElem?_drop, Array.getElem?_toList]
      congr 1
      simp
      omega

/-- The model's filling of a composite is the evaluator's. -/
theorem fill_ok {place : Nat → Option (Nat × Nat)} : ∀ {ps : List (Nat × Operand)} {ls : List (Nat × Nat × Rd)}, lowParts E place ps = some ls → LRel X env a.tmps.toList → Glob E X →
    ∀ {zero : List V} {cz : Array Value} {cs : List V}, Zdo zero (Zbu env ls) = some cs → LRel X zero cz.toList → (∀ x ∈ cz.toList, plainC x) →
    ∃ cc, Instr.fill place cz (ps.map fun (i, x) => (i, a.eval x)) = some cc ∧ LRel X cs cc.toList ∧ ∀ x ∈ cc.toList, plainC x
  | [], ls, h, _, _, zero, cz, cs, hf, hz, hp => by
    simp only [lowParts, Option.some.injEq] at h
    subst h
    simp only [Zbu, List.map_nil, Zdo, Option.some.injEq] at hf
    subst hf
    exact ⟨cz, rfl, hz, hp⟩
  | (i, x) :: ps, ls, h, he, hg, zero, cz, cs, hf, hz, hp => by
    simp only [lowParts, Option.bind_eq_bind, Option.bind_eq_some_iff, Option.pure_def, Option.some.injEq] at h
    obtain ⟨⟨off, n⟩, hpl, rx, hx, l', hl', rfl⟩ := h
    simp only [Zbu, List.map_cons, Zdo] at hf
    split at hf
    · rename_i hc
      obtain ⟨h1, h2, h3⟩ := hc
      obtain ⟨hr, hpc⟩ := cells_rel (lowR_rel he hg hx) h3
      have hlen := hr.length
      have hsz := hz.length
      simp only [Array.length_toList] at hlen hsz
      have hnew := foldl_set (a.eval x).cells.toList cz off (by simp; omega)
      have key : ((a.eval x).cells.zipIdx.foldl (fun cs (c, j) => cs.setIfInBounds (off + j) c) cz).toList = cz.toList.take off ++ (a.eval x).cells.toList ++ cz.toList.drop (off + (a.eval x).cells.toList.length) := by
        rw [← hnew, ← Array.foldl_toList, Array.toList_zipIdx]
      obtain ⟨cc, q1, q2, q3⟩ := fill_ok hl' he hg (cz := (a.eval x).cells.zipIdx.foldl (fun cs (c, j) => cs.setIfInBounds (off + j) c) cz) hf (by rw [key]; exact splice_rel hz hr off) (by
        rw [key]
        intro y hy
        simp only [List.mem_append] at hy
        rcases hy with (hy | hy) | hy
        · exact hp y (List.mem_of_mem_take hy)
        · exact hpc y hy
        · exact hp y (List.mem_of_mem_drop hy))
      refine ⟨cc, ?_, q2, q3⟩
      simp only [List.map_cons, Instr.fill, hpl]
      rw [if_neg]
      · exact q1
      · simp only [Bool.or_eq_true, bne_iff_ne, ne_eq, decide_eq_true_eq, not_or, Decidable.not_not]
        omega
    · cases hf

theorem zeroOf_rel {t : TypeId} {z : V} (h : zeroOf E t = some z) (ht : Zdp z = false) : ∃ c, (∀ w, (zeroValue t).run E.P w = .ok c w) ∧ VRel X z c ∧ LRel X (Zbt z) c.cells.toList ∧ ∀ x ∈ c.cells.toList, plainC x := by
  unfold zeroOf at h
  cases hi : E.P.info? t with
  | none => rw [hi] at h; cases h
  | some i =>
    rw [hi] at h
    simp only [Option.bind_some] at h
    cases hz : i.zero with
    | none => rw [hz] at h; cases h
    | some c =>
      rw [hz] at h
      simp only [Option.bind_some] at h
      have hr := constV_rel (X := X) c h
      exact ⟨c, fun w => by simp [zeroValue, typeInfo, hi, hz], hr, cells_rel hr ht⟩

theorem run_mapM_fields {fs : Array Field} {w : World} (hs : ∀ f ∈ fs.toList, ∃ n, szOf E f.type = some n) :
    ∃ pl : Array (Nat × Nat), (fs.mapM fun (f : Field) => (do pure (f.offset, ← sizeOf f.type) : Sem (Nat × Nat))).run E.P w = .ok pl w ∧ ∀ i : Nat, pl[i]? = (fs[i]?).bind fun (f : Field) => (szOf E f.type).map fun s => (f.offset, s) := by
  have key : ∀ (l : List Field), (∀ f ∈ l, ∃ n, szOf E f.type = some n) → ∃ pl : List (Nat × Nat), (l.mapM fun (f : Field) => (do pure (f.offset, ← sizeOf f.type) : Sem (Nat × Nat))).run E.P w = .ok pl w ∧ ∀ i : Nat, pl[i]? = (l[i]?).bind fun (f : Field) => (szOf E f.type).map fun s => (f.offset, s) := by
    intro l
    induction l with
    | nil => intro _; exact ⟨[], by simp, by simp⟩
    | cons f l ih =>
      intro hs
      obtain ⟨n, hn⟩ := hs f (by simp)
      obtain ⟨pl, h1, h2⟩ := ih fun g hg => hs g (by simp [hg])
      refine ⟨(f.offset, n) :: pl, ?_, ?_⟩
      · simp only [List.mapM_cons, Sem.run_bind, run_sizeOf_sz hn, Result.andThen_ok, Sem.run_pure, h1]
      · intro i
        cases i with
        | zero => simp [hn]
        | succ i => simpa using h2 i
  obtain ⟨pl, h1, h2⟩ := key fs.toList hs
  refine ⟨pl.toArray, ?_, fun i => by simpa using h2 i⟩
  rw [Array.mapM_eq_mapM_toList]
  simp only [Sem.run_map, h1, Result.andThen_ok]


theorem buildStruct_ok (he : LRel X env a.tmps.toList) (hg : Glob E X) {t : TypeId} {ps : Array (Nat × Operand)} {fs : Array Field} (ho : o.op = .build t ps) (hu : E.P.underlying t = some (.struct fs)) (hall : ∀ f ∈ fs.toList, ∃ n, szOf E f.type = some n)
    {z : V} (hz : zeroOf E t = some z) (hzt : Zdp z = false) {l : List (Nat × Nat × Rd)} (hl : lowParts E (fun i => (fs[i]?).bind fun (f : Field) => (szOf E f.type).map fun s => (f.offset, s)) ps.toList = some l) {v : V}
    (hv : opV bar env H (.build (Zbt z) l) = some (v, H)) : Gives E X a o v := by
  simp only [opV, Option.map_eq_some_iff] at hv
  obtain ⟨cs, hf, e⟩ := hv
  cases e
  obtain ⟨zc, hzr, _, hz1, hz2⟩ := zeroOf_rel (X := X) hz hzt
  obtain ⟨pl, hp1, hp2⟩ := run_mapM_fields (E := E) (w := X.w) hall
  obtain ⟨cc, q1, q2, q3⟩ := fill_ok hl he hg hf hz1 hz2
  refine ⟨.agg cc, ?_, by unfold VRel; exact ⟨cc.toList, by simp, q2, q3⟩⟩
  have hfill : Instr.fill (fun x => pl[x]?) zc.cells ((ps.map fun (i, x) => (i, a.eval x)).toList) = some cc := by
    rw [Array.toList_map]
    have : (fun x => pl[x]?) = (fun i => (fs[i]?).bind fun (f : Field) => (szOf E f.type).map fun s => (f.offset, s)) := funext hp2
    rw [this]
    exact q1
  simp only [execOp, ho, Instr.build, Sem.run_bind, hzr, Result.andThen_ok, run_underlying hu, hp1, hfill]
  rfl

theorem buildArr_ok (he : LRel X env a.tmps.toList) (hg : Glob E X) {t el : TypeId} {n s : Nat} {ps : Array (Nat × Operand)} (ho : o.op = .build t ps) (hu : E.P.underlying t = some (.array n el)) (hs : szOf E el = some s)
    {z : V} (hz : zeroOf E t = some z) (hzt : Zdp z = false) {l : List (Nat × Nat × Rd)} (hl : lowParts E (fun i => some (i * s, s)) ps.toList = some l) {v : V}
    (hv : opV bar env H (.build (Zbt z) l) = some (v, H)) : Gives E X a o v := by
  simp only [opV, Option.map_eq_some_iff] at hv
  obtain ⟨cs, hf, e⟩ := hv
  cases e
  obtain ⟨zc, hzr, _, hz1, hz2⟩ := zeroOf_rel (X := X) hz hzt
  obtain ⟨cc, q1, q2, q3⟩ := fill_ok hl he hg hf hz1 hz2
  refine ⟨.agg cc, ?_, by unfold VRel; exact ⟨cc.toList, by simp, q2, q3⟩⟩
  have hfill : Instr.fill (fun i => some (i * s, s)) zc.cells ((ps.map fun (i, x) => (i, a.eval x)).toList) = some cc := by
    rw [Array.toList_map]
    exact q1
  simp only [execOp, ho, Instr.build, Sem.run_bind, hzr, Result.andThen_ok, run_underlying hu, run_sizeOf_sz hs, hfill]
  rfl

/-! ### lengths and the like -/
theorem len_rel {v : V} {c : Value} (h : VRel X v c) {n : Nat} (hn : Zdr v = some n) : (∃ s, v = .str s ∧ c = .string ⟨s.toArray⟩ ∧ n = s.length) ∨ (∃ ad cap, c = .slice ad n cap ∧ n ≤ cap) := by
  cases v <;> simp only [Zdr, Option.some.injEq] at hn <;> (try (cases hn; done)) <;> unfold VRel at h
  · subst hn; exact .inl ⟨_, rfl, h, rfl⟩
  · subst hn; obtain ⟨ad, cap, q, hle, _⟩ := h; exact .inr ⟨ad, cap, q, hle⟩
  · subst hn; obtain ⟨_, _, _, ad, cap, _, _, q, hle, _⟩ := h; exact .inr ⟨_, cap, q, hle⟩

theorem bsize (s : List UInt8) : (⟨s.toArray⟩ : ByteArray).size = s.length := by simp [ByteArray.size]

theorem run_builtin {c : Call} {b : Builtin} (ho : o.op = .call c) (hc : c.callee = .builtin b) (w : World) :
    (execOp a.eval o).run E.P w = (builtin b c.argTypes o.type (c.args.map fun | .const _ => true | _ => false) (c.args.map a.eval)).run E.P w := by
  simp only [execOp, ho, resolve, hc, Sem.run_bind, Sem.run_pure, Result.andThen_ok, invoke]
  rfl

theorem slen_ok (he : LRel X env a.tmps.toList) (hg : Glob E X) {c : Call} {t : TypeId} {x : Operand} {rx : Rd} (ho : o.op = .call c) (hc : c.callee = .builtin .len) (hts : c.argTypes[0]? = some t) (has : c.args = #[x]) (hx : lowR E x = some rx)
    (hu : E.P.underlying t = some .string) {s : List UInt8} (hs : rx.ev env = .str s) : Gives E X a o (.int .i64 s.length) := by
  have h := lowR_rel he hg hx
  rw [hs] at h; unfold VRel at h
  refine ⟨goInt s.length, ?_, by unfold VRel; rfl⟩
  rw [run_builtin ho hc, has]
  simp [builtin, Builtin.len_, hts, h, run_underlying hu, bsize]

theorem lenSl_rel {v : V} {c : Value} (h : VRel X v c) {n : Nat} (hn : lenSl v = some n) : ∃ ad cap, c = .slice ad n cap ∧ n ≤ cap := by
  cases v <;> simp only [lenSl, Option.some.injEq] at hn <;> (try (cases hn; done)) <;> unfold VRel at h
  · subst hn; obtain ⟨ad, cap, q, hle, _⟩ := h; exact ⟨ad, cap, q, hle⟩
  · subst hn; obtain ⟨_, _, _, ad, cap, _, _, q, hle, _⟩ := h; exact ⟨_, cap, q, hle⟩

theorem len_ok (he : LRel X env a.tmps.toList) (hg : Glob E X) {c : Call} {t e : TypeId} {x : Operand} {rx : Rd} (ho : o.op = .call c) (hc : c.callee = .builtin .len) (hts : c.argTypes[0]? = some t) (has : c.args = #[x]) (hx : lowR E x = some rx)
    (hu : E.P.underlying t = some (.slice e)) {n : Nat} (hs : lenSl (rx.ev env) = some n) : Gives E X a o (.int .i64 n) := by
  have h := lowR_rel he hg hx
  refine ⟨goInt n, ?_, by unfold VRel; rfl⟩
  obtain ⟨ad, cap, q, _⟩ := lenSl_rel h hs
  rw [run_builtin ho hc, has]
  simp [builtin, Builtin.len_, hts, q, run_underlying hu]

theorem lenArr_ok (he : LRel X env a.tmps.toList) (hg : Glob E X) {c : Call} {t e : TypeId} {x : Operand} {n : Nat} (ho : o.op = .call c) (hc : c.callee = .builtin .len) (hts : c.argTypes[0]? = some t) (has : c.args = #[x])
    (hu : E.P.underlying t = some (.array n e)) : Gives E X a o (.int .i64 n) := by
  refine ⟨goInt n, ?_, by unfold VRel; rfl⟩
  rw [run_builtin ho hc, has]
  simp [builtin, Builtin.len_, hts, run_underlying hu]

theorem lenPtr_ok (he : LRel X env a.tmps.toList) (hg : Glob E X) {c : Call} {t p e : TypeId} {x : Operand} {n : Nat} (ho : o.op = .call c) (hc : c.callee = .builtin .len) (hts : c.argTypes[0]? = some t) (has : c.args = #[x])
    (hu : E.P.underlying t = some (.pointer p)) (hp : E.P.underlying p = some (.array n e)) : Gives E X a o (.int .i64 n) := by
  refine ⟨goInt n, ?_, by unfold VRel; rfl⟩
  rw [run_builtin ho hc, has]
  simp [builtin, Builtin.len_, hts, run_underlying hu, run_underlying hp]

theorem cap_ok (he : LRel X env a.tmps.toList) (hg : Glob E X) {c : Call} {t e : TypeId} {x : Operand} {rx : Rd} (ho : o.op = .call c) (hc : c.callee = .builtin .cap) (hts : c.argTypes[0]? = some t) (has : c.args = #[x]) (hx : lowR E x = some rx)
    (hu : E.P.underlying t = some (.slice e)) {v : V} (hv : opV bar env H (.cap rx) = some (v, H)) : Gives E X a o v := by
  have h := lowR_rel he hg hx
  simp only [opV] at hv
  split at hv
  · rename_i id g of ln es cp hq
    cases hv
    rw [hq] at h; unfold VRel at h
    obtain ⟨_, _, _, ad, ccap, _, _, q, _, hk, _⟩ := h
    refine ⟨goInt cp, ?_, by unfold VRel; rfl⟩
    rw [run_builtin ho hc, has]
    simp [builtin, Builtin.cap_, hts, q, run_underlying hu, hk cp rfl]
  · rename_i cp hq
    cases hv
    rw [hq] at h; unfold VRel at h
    obtain ⟨ad, ccap, q, _, _, _, hn, _⟩ := h
    refine ⟨goInt 0, ?_, by unfold VRel; rfl⟩
    rw [run_builtin ho hc, has]
    simp [builtin, Builtin.cap_, hts, q, run_underlying hu, (hn rfl).2]
  · cases hv

theorem foldO_ok {P : Program} {w : World} {f : V → V → Option V} {g : Value → Value → Sem Value} (hfg : ∀ x y z c d, f x y = some z → VRel X x c → VRel X y d → ∃ e, (g c d).run P w = .ok e w ∧ VRel X z e) :
    ∀ (l : List V) (r : List Value) (x : V) (c : Value) (z : V), foldO f x l = some z → VRel X x c → LRel X l r → ∃ e, (r.foldlM g c).run P w = .ok e w ∧ VRel X z e
  | [], r, x, c, z, h, hx, hl => by
    rw [LRel.nil_iff.1 hl]
    simp only [foldO, Option.some.injEq] at h
    subst h
    exact ⟨c, rfl, hx⟩
  | y :: l, r, x, c, z, h, hx, hl => by
    unfold LRel at hl
    obtain ⟨d, r', rfl, hy, hl⟩ := hl
    simp only [foldO, Option.bind_eq_some_iff] at h
    obtain ⟨u, hu, h⟩ := h
    obtain ⟨e, he, hr⟩ := hfg x y u c d hu hx hy
    obtain ⟨e', he', hr'⟩ := foldO_ok hfg l r' u e z h hr hl
    exact ⟨e', by simp only [List.foldlM_cons, Sem.run_bind, he, Result.andThen_ok, he'], hr'⟩

theorem min_ok (he : LRel X env a.tmps.toList) (hg : Glob E X) {c : Call} {rs : List Rd} (ho : o.op = .call c) (hc : c.callee = .builtin .min) (hx : lowL E c.args = some rs)
    {v : V} (hv : opV bar env H (.min rs) = some (v, H)) : Gives E X a o v := by
  have h := lowL_rel he hg hx
  simp only [opV] at hv
  split at hv
  · rename_i x r hq
    simp only [Option.map_eq_some_iff] at hv
    obtain ⟨z, hz, e⟩ := hv
    cases e
    rw [hq] at h
    unfold LRel at h
    obtain ⟨d, r', hr', hd, hl⟩ := h
    obtain ⟨e, he', hr⟩ := foldO_ok (P := E.P) (w := X.w) (f := minV) (g := Builtin.min2) (fun x y z c d hf hc hd => by
      cases x <;> cases y <;> simp only [minV] at hf <;> (try (cases hf; done))
      split at hf
      · cases hf
        unfold VRel at hc hd
        subst hc hd
        exact ⟨_, rfl, by unfold VRel; rfl⟩
      · cases hf) _ _ _ _ _ hz hd hl
    refine ⟨e, ?_, hr⟩
    rw [run_builtin ho hc]
    simp only [builtin, Builtin.min_, Array.toList_map, hr', Sem.run_bind, he', Result.andThen_ok, Sem.run_pure]
  · cases hv

theorem max_ok (he : LRel X env a.tmps.toList) (hg : Glob E X) {c : Call} {rs : List Rd} (ho : o.op = .call c) (hc : c.callee = .builtin .max) (hx : lowL E c.args = some rs)
    {v : V} (hv : opV bar env H (.max rs) = some (v, H)) : Gives E X a o v := by
  have h := lowL_rel he hg hx
  simp only [opV] at hv
  split at hv
  · rename_i x r hq
    simp only [Option.map_eq_some_iff] at hv
    obtain ⟨z, hz, e⟩ := hv
    cases e
    rw [hq] at h
    unfold LRel at h
    obtain ⟨d, r', hr', hd, hl⟩ := h
    obtain ⟨e, he', hr⟩ := foldO_ok (P := E.P) (w := X.w) (f := maxV) (g := Builtin.max2) (fun x y z c d hf hc hd => by
      cases x <;> cases y <;> simp only [maxV] at hf <;> (try (cases hf; done))
      split at hf
      · cases hf
        unfold VRel at hc hd
        subst hc hd
        exact ⟨_, rfl, by unfold VRel; rfl⟩
      · cases hf) _ _ _ _ _ hz hd hl
    refine ⟨e, ?_, hr⟩
    rw [run_builtin ho hc]
    simp only [builtin, Builtin.max_, Array.toList_map, hr', Sem.run_bind, he', Result.andThen_ok, Sem.run_pure]
  · cases hv

theorem assert_ok (he : LRel X env a.tmps.toList) (hg : Glob E X) {x : Operand} {t ty : TypeId} {ok : Bool} {rx : Rd} (ho : o.op = .typeAssert x ty t ok) (hx : lowR E x = some rx) {d : TypeDesc} (hu : E.P.underlying t = some d) (hi : ∀ ms, d ≠ .interface ms)
    {z : V} (hz : zeroOf E t = some z) (hzt : Zdp z = false) {v : V} (hv : opV bar env H (.assert t z rx ok) = some (v, H)) : Gives E X a o v := by
  have h := lowR_rel he hg hx
  obtain ⟨zc, hzr, hz0, _⟩ := zeroOf_rel (X := X) hz hzt
  have fails : ∀ {c : Value}, ok = true → VRel X (.tup [z, .bool false]) (.tuple #[zc, .bool false]) := by
    intro _ _
    unfold VRel
    exact ⟨_, rfl, LRel.cons hz0 (LRel.cons (by unfold VRel; rfl) LRel.nil)⟩
  simp only [opV] at hv
  split at hv
  · rename_i hq
    rw [hq] at h; unfold VRel at h
    split at hv
    · rename_i hok
      cases hv
      refine ⟨_, ?_, fails (c := .nilIface) hok⟩
      simp only [execOp, ho, Instr.typeAssert, Sem.run_bind, run_underlying hu, Result.andThen_ok, h, hok]
      cases d <;> first | exact absurd rfl (hi _) | simp [hzr]
    · cases hv
  · rename_i t' v' hq
    rw [hq] at h; unfold VRel at h
    obtain ⟨c', q, hc'⟩ := h
    split at hv
    · rename_i ht
      subst ht
      cases hv
      cases ok with
      | true =>
        refine ⟨.tuple #[c', .bool true], ?_, by simp only [if_true]; unfold VRel; exact ⟨_, rfl, LRel.cons hc' (LRel.cons (by unfold VRel; rfl) LRel.nil)⟩⟩
        simp only [execOp, ho, Instr.typeAssert, Sem.run_bind, run_underlying hu, Result.andThen_ok, q]
        cases d <;> first | exact absurd rfl (hi _) | simp
      | false =>
        refine ⟨c', ?_, by simpa using hc'⟩
        simp only [execOp, ho, Instr.typeAssert, Sem.run_bind, run_underlying hu, Result.andThen_ok, q]
        cases d <;> first | exact absurd rfl (hi _) | simp
    · rename_i ht
      split at hv
      · rename_i hok
        cases hv
        refine ⟨_, ?_, fails (c := .nilIface) hok⟩
        simp only [execOp, ho, Instr.typeAssert, Sem.run_bind, run_underlying hu, Result.andThen_ok, q, hok]
        cases d <;> first | exact absurd rfl (hi _) | simp [hzr, ht]
      · cases hv
  · cases hv

theorem sd_nil (ts : Array TypeId) (ty : TypeId) (n c : Nat) : Builtin.unsafeSliceData_ ts ty #[.slice none n c] = pure (.pointer none) := rfl
theorem sd_some (ts : Array TypeId) (ty : TypeId) (ad : Addr) (n c : Nat) (h : c ≠ 0) : Builtin.unsafeSliceData_ ts ty #[.slice (some ad) n c] = pure (.pointer (some ad)) := by
  show (if c ≠ 0 then pure (Value.pointer (some ad)) else _) = _
  rw [if_pos h]

theorem sdata_ok (he : LRel X env a.tmps.toList) (hg : Glob E X) {c : Call} {x : Operand} {rx : Rd} (ho : o.op = .call c) (hc : c.callee = .builtin .unsafeSliceData) (has : c.args = #[x]) (hx : lowR E x = some rx)
    {v : V} (hv : opV bar env H (.sdata rx) = some (v, H)) : Gives E X a o v := by
  have h := lowR_rel he hg hx
  simp only [opV] at hv
  split at hv
  · rename_i hq
    cases hv
    rw [hq] at h; unfold VRel at h
    obtain ⟨ad, ccap, q, _, _, _, hn, _⟩ := h
    obtain ⟨rfl, rfl⟩ := hn rfl
    refine ⟨.pointer none, ?_, by unfold VRel; rfl⟩
    rw [run_builtin ho hc, has]
    simp [builtin, sd_nil, q]
  · rename_i id g of ln es cp hq
    split at hv
    · rename_i hlt
      cases hv
      rw [hq] at h; unfold VRel at h
      obtain ⟨b, ob, gg, ad, ccap, hρ, hgg, q, hle, _, hm⟩ := h
      refine ⟨.pointer (some ad), ?_, ?_⟩
      · rw [run_builtin ho hc, has]
        have : ccap ≠ 0 := by omega
        simp [builtin, q, sd_some _ _ _ _ _ this]
      · unfold VRel
        exact ⟨b, ob, gg, ad, hρ, hgg, rfl, fun eg => (hm eg).1 (by omega)⟩
    · cases hv
  · cases hv

end Go.Ev
/- How a state goes on: a new object, an object changed. -/
namespace Go.Ev
open Go
variable {E : Env} {X : Ctx} {H : Heap} {bar : Nat}

theorem cell_heap {w w' : World} {b : Nat} (h : w'.heap[b]? = w.heap[b]?) (o : Nat) : w'.cell? ⟨b, o, none⟩ = w.cell? ⟨b, o, none⟩ := by
  simp only [World.cell?, h]

def addρ (ρ : Nat → Option Ent) (n : Nat) (e : Ent) : Nat → Option Ent := fun i => if i = n then some e else ρ i

theorem addρ_same (ρ : Nat → Option Ent) (n : Nat) (e : Ent) : addρ ρ n e n = some e := by simp [addρ]
theorem addρ_ne (ρ : Nat → Option Ent) (n : Nat) (e : Ent) {i : Nat} (h : i ≠ n) : addρ ρ n e i = ρ i := by simp [addρ, h]

theorem ERel.le {X Y : Ctx} (h : Le X Y) : ∀ {es : List (V × V)} {l : List MapEntry}, ERel X es l → ERel Y es l
  | [], _, hr => hr
  | (k, v) :: es, _, hr => by
    unfold ERel at hr ⊢
    obtain ⟨e, l', q, h1, h2, h3⟩ := hr
    exact ⟨e, l', q, VRel.le h k h1, VRel.le h v h2, ERel.le h h3⟩

/-- An object whose block has not changed. -/
theorem ObjRel.le {X Y : Ctx} (h : Le X Y) {e : Ent} {o : Obj} (hb : Y.w.heap[e.blk]? = X.w.heap[e.blk]?) (hr : ObjRel E X e o) : ObjRel E Y e o := by
  cases e with
  | cl b ob g =>
    cases o with
    | cells el cs g' prot frz =>
      unfold ObjRel at hr ⊢
      obtain ⟨hg, hg0, arr, fr, hbl, hs, hc, hf, hz⟩ := hr
      refine ⟨hg, hg0, arr, fr, ?_, hs, fun i v hv => ?_, hf, fun hfr => h.fz _ (hz hfr)⟩
      · rw [← hbl]; exact hb
      · obtain ⟨c, h1, h2, h3⟩ := hc i v hv
        exact ⟨c, h1, h2, VRel.le h v h3⟩
    | map _ => simp [ObjRel] at hr
    | siter _ _ => simp [ObjRel] at hr
    | loop _ _ _ _ _ _ => simp [ObjRel] at hr
    | other => simp [ObjRel] at hr
  | ob b =>
    cases o with
    | cells _ _ _ _ _ => simp [ObjRel] at hr
    | map es =>
      unfold ObjRel at hr ⊢
      obtain ⟨l, clk, h1, h2⟩ := hr
      exact ⟨l, clk, by rw [← h1]; exact hb, h2.le h⟩
    | siter s p =>
      have hr' : X.w.heap[b]? = some (.stringIter ⟨s.toArray⟩ p) := hr
      exact hb.trans hr'
    | loop st j env ps as bd =>
      unfold ObjRel at hr ⊢
      obtain ⟨L, h1, h2, h3, h4, h5⟩ := hr
      exact ⟨L, by rw [← h1]; exact hb, h2, h3, LRel.le h _ h4, h5⟩
    | other => simp [ObjRel] at hr

/-- A world in which nothing in memory has changed. -/
theorem St.same {X Y : Ctx} (st : St E X H) (h1 : Y.w.heap = X.w.heap) (h2 : Y.ρ = X.ρ) (h3 : Y.Fz = X.Fz) (hio : IO2 X.w Y.w := by exact ⟨rfl, rfl, rfl⟩) : St E Y H ∧ Ext bar X H Y H := by
  have le : Le X Y := by
    refine ⟨fun b hb => by rw [h3]; exact hb, fun b o c _ hc => (cell_heap (w := X.w) (w' := Y.w) (by rw [h1]) o).trans hc, fun i b hi => by rw [h2]; exact hi, fun i b o g hi => ⟨b, o, g, by rw [h2]; exact hi, Nat.le_refl _, fun _ => ⟨rfl, rfl⟩⟩, ?_⟩
    intro i b o g arr el fr _ _ hb
    exact ⟨arr, el, fr, by rw [h1]; exact hb, Nat.le_refl _⟩
  refine ⟨⟨?_, by rw [h2]; exact st.doms, by rw [h2]; exact st.inj, by rw [h2, h1]; exact st.bnd, by rw [h3, h1]; exact st.fzb, by rw [h2, h3]; exact st.sep⟩, ⟨le, by rw [h1]; exact Nat.le_refl _, fun b _ _ => by rw [h1], fun i _ => by rw [h2], fun b hb _ => .inl (by rw [← h3]; exact hb), ?_, fun _ _ => rfl, Nat.le_refl _, hio⟩⟩
  · intro i o ho hne
    obtain ⟨e, he, hr⟩ := st.obj i o ho hne
    exact ⟨e, by rw [h2]; exact he, hr.le le (by rw [h1])⟩
  · intro i e hi he _
    exact ⟨i, e, hi, by rw [← h2]; exact he, rfl⟩

theorem push_get {α : Type} (a : Array α) (x : α) {i : Nat} (h : i < a.size) : (a.push x)[i]? = a[i]? := by
  rw [Array.getElem?_push]; simp; intro e; omega

theorem putNew_get (H : Heap) {id : Nat} (hid : id ≤ H.length) (o : Obj) (i : Nat) : (putNew H id o)[i]? = if i = id then some o else H[i]? := by
  unfold putNew
  by_cases h : i = id
  · subst h
    rw [if_pos rfl]
    split
    · rename_i hl; rw [List.getElem?_set_self hl]
    · have : i = H.length := by omega
      subst this; simp
  · rw [if_neg h]
    split
    · rw [List.getElem?_set_ne (Ne.symm h)]
    · by_cases hi : i < H.length
      · rw [List.getElem?_append_left hi]
      · rw [List.getElem?_eq_none (l := H ++ [o]) (by simp; omega), List.getElem?_eq_none (l := H) (by omega)]

theorem putNew_len (H : Heap) (id : Nat) (o : Obj) : H.length ≤ (putNew H id o).length := by
  unfold putNew; split <;> simp

theorem putNew_end (H : Heap) (o : Obj) : putNew H H.length o = H ++ [o] := by
  unfold putNew; simp

/-- Where a new object may be put: behind the heap, or where nothing lies. -/
def Slot (bar : Nat) (H : Heap) (id : Nat) : Prop := bar ≤ id ∧ id ≤ H.length ∧ (H[id]?).getD .other = .other

theorem Slot.end (hb : bar ≤ H.length) : Slot bar H H.length := ⟨hb, Nat.le_refl _, by simp⟩

/-- A new object. -/
theorem St.allocAt (st : St E X H) {id : Nat} (hs : Slot bar H id) {w' : World} {ob : Go.Obj} (hw : w'.heap = X.w.heap.push ob) {e : Ent} (he : e.blk = X.w.heap.size) {o : Obj} {Y : Ctx} (hY : Y = ⟨w', addρ X.ρ id e, X.Fz⟩)
    (hfr : isFrz o = false) (hobj : Le X Y → ObjRel E Y e o) (hno : o ≠ .other := by nofun) (hio : IO2 X.w w' := by exact ⟨rfl, rfl, rfl⟩) : St E Y (putNew H id o) ∧ Ext bar X H Y (putNew H id o) := by
  obtain ⟨hb, hle, hoth⟩ := hs
  have hold : ∀ b, b < X.w.heap.size → w'.heap[b]? = X.w.heap[b]? := fun b hb => by rw [hw]; exact push_get _ _ hb
  have hdn : X.ρ id = none := st.doms _ hoth
  have hne : ∀ i e', X.ρ i = some e' → i ≠ id := fun i e' h1 h2 => by rw [h2, hdn] at h1; cases h1
  have le : Le X Y := by
    subst hY
    refine ⟨fun _ h => h, fun b o' c hz hc => ?_, fun i b hi => ?_, fun i b o' g hi => ⟨b, o', g, ?_, Nat.le_refl _, fun _ => ⟨rfl, rfl⟩⟩, fun i b o' g arr el fr hi _ hbl => ⟨arr, el, fr, ?_, Nat.le_refl _⟩⟩
    · show World.cell? w' _ = _
      rw [cell_heap (hold b (st.fzb b hz)) o']; exact hc
    · show addρ _ _ _ _ = _
      rw [addρ_ne _ _ _ (hne _ _ hi)]; exact hi
    · show addρ _ _ _ _ = _
      rw [addρ_ne _ _ _ (hne _ _ hi)]; exact hi
    · show w'.heap[b]? = _
      rw [hold b (st.bnd i _ hi)]; exact hbl
  have hobj := hobj le
  subst hY
  refine ⟨⟨?_, ?_, ?_, ?_, ?_, ?_⟩, ⟨le, ?_, fun b hb _ => hold b hb, ?_, fun b hz _ => .inl hz, ?_, ?_, putNew_len _ _ _, hio⟩⟩
  · intro i o' ho hne'
    rw [putNew_get H hle] at ho
    split at ho
    · rename_i hii; subst hii; cases ho
      exact ⟨e, addρ_same _ _ _, hobj⟩
    · rename_i hii
      obtain ⟨e', he', hr⟩ := st.obj i o' ho hne'
      exact ⟨e', by show addρ _ _ _ _ = _; rw [addρ_ne _ _ _ hii]; exact he', hr.le le (hold _ (st.bnd i e' he'))⟩
  · intro i hi
    rw [putNew_get H hle] at hi
    split at hi
    · exact absurd hi hno
    · rename_i hii
      show addρ _ _ _ _ = _
      rw [addρ_ne _ _ _ hii]
      exact st.doms i hi
  · intro i j e1 e2 h1 h2 hbl
    simp only [addρ] at h1 h2
    split at h1
    · cases h1
      split at h2
      · omega
      · have := st.bnd j _ h2; omega
    · split at h2
      · cases h2
        have := st.bnd i _ h1; omega
      · exact st.inj i j _ _ h1 h2 hbl
  · intro i e1 h1
    simp only [addρ] at h1
    show e1.blk < w'.heap.size
    rw [hw, Array.size_push]
    split at h1
    · cases h1; omega
    · have := st.bnd i _ h1; omega
  · intro b hz
    show b < w'.heap.size
    rw [hw, Array.size_push]
    have := st.fzb b hz; omega
  · intro i e1 o1 h1 ho hf hz
    simp only [addρ] at h1
    rw [putNew_get H hle] at ho
    split at h1
    · cases h1
      have := st.fzb _ hz; omega
    · rename_i hni
      rw [if_neg hni] at ho
      exact st.sep i _ o1 h1 ho hf hz
  · show X.w.heap.size ≤ w'.heap.size
    rw [hw, Array.size_push]; omega
  · intro i hi
    show addρ _ _ _ _ = _
    exact addρ_ne _ _ _ (by omega)
  · intro i e1 hi h1 hbl
    simp only [addρ] at h1
    split at h1
    · cases h1; omega
    · exact ⟨i, e1, hi, h1, rfl⟩
  · intro i hi
    rw [putNew_get H hle, if_neg (by omega)]

theorem St.alloc (st : St E X H) (hb : bar ≤ H.length) {w' : World} {ob : Go.Obj} (hw : w'.heap = X.w.heap.push ob) {e : Ent} (he : e.blk = X.w.heap.size) {o : Obj} {Y : Ctx} (hY : Y = ⟨w', addρ X.ρ H.length e, X.Fz⟩)
    (hfr : isFrz o = false) (hobj : Le X Y → ObjRel E Y e o) (hno : o ≠ .other := by nofun) (hio : IO2 X.w w' := by exact ⟨rfl, rfl, rfl⟩) : St E Y (H ++ [o]) ∧ Ext bar X H Y (H ++ [o]) := by
  rw [← putNew_end]
  exact st.allocAt (Slot.end hb) hw he hY hfr hobj hno hio

/-- An object changed: in place, or at another block. -/
theorem St.update (st : St E X H) {id : Nat} {o o' : Obj} {e e' : Ent} (hid : H[id]? = some o) (he : X.ρ id = some e) (hbar : bar ≤ id) {w' : World}
    (hsz : X.w.heap.size ≤ w'.heap.size) (hoth : ∀ b, b < X.w.heap.size → b ≠ e.blk → w'.heap[b]? = X.w.heap[b]?)
    (hkeep : ¬ X.Fz e.blk ∨ ∀ oo c, X.w.cell? ⟨e.blk, oo, none⟩ = some c → w'.cell? ⟨e.blk, oo, none⟩ = some c)
    (hblk : e'.blk = e.blk ∨ X.w.heap.size ≤ e'.blk) (hlt : e'.blk < w'.heap.size)
    (hent : (e' = e ∧ ∀ arr el fr, X.w.heap[e.blk]? = some (.cells arr el fr) → ∃ arr' el' fr', w'.heap[e.blk]? = some (.cells arr' el' fr') ∧ arr.size ≤ arr'.size) ∨ (∃ b ob g b' ob' g', e = .cl b ob g ∧ e' = .cl b' ob' g' ∧ g < g'))
    (hfz : isFrz o' = isFrz o) {Y : Ctx} (hY : Y = ⟨w', addρ X.ρ id e', X.Fz⟩) (hobj : Le X Y → ObjRel E Y e' o') (hno : o' ≠ .other := by nofun) (hio : IO2 X.w w' := by exact ⟨rfl, rfl, rfl⟩) : St E Y (H.set id o') ∧ Ext bar X H Y (H.set id o') := by
  have hidl : id < H.length := (List.getElem?_eq_some_iff.1 hid).1
  have hoblk : ∀ i e1, X.ρ i = some e1 → i ≠ id → e1.blk ≠ e.blk := fun i e1 h1 h2 h3 => h2 (st.inj i id e1 e h1 he h3)
  have le : Le X Y := by
    subst hY
    refine ⟨fun _ h => h, fun b oo c hz hc => ?_, fun i b hi => ?_, fun i b ob g hi => ?_, fun i b ob g arr el fr hi hi' hbl => ?_⟩
    · show World.cell? w' _ = _
      by_cases hbe : b = e.blk
      · subst hbe
        rcases hkeep with hk | hk
        · exact absurd hz hk
        · exact hk oo c hc
      · rw [cell_heap (hoth b (st.fzb b hz) hbe) oo]; exact hc
    · show addρ _ _ _ _ = _
      by_cases hii : i = id
      · subst hii
        rw [he] at hi
        cases hi
        rw [addρ_same]
        rcases hent with ⟨rfl, _⟩ | ⟨b1, ob1, g1, _, _, _, q, _⟩
        · rfl
        · cases q
      · rw [addρ_ne _ _ _ hii]; exact hi
    · show ∃ b' o' g', addρ _ _ _ _ = _ ∧ _
      by_cases hii : i = id
      · subst hii
        rw [he] at hi
        cases hi
        rw [addρ_same]
        rcases hent with ⟨rfl, _⟩ | ⟨b1, ob1, g1, b2, ob2, g2, q, rfl, hg⟩
        · exact ⟨b, ob, g, rfl, Nat.le_refl _, fun _ => ⟨rfl, rfl⟩⟩
        · cases q
          exact ⟨b2, ob2, g2, rfl, by omega, fun h => by omega⟩
      · rw [addρ_ne _ _ _ hii]; exact ⟨b, ob, g, hi, Nat.le_refl _, fun _ => ⟨rfl, rfl⟩⟩
    · show ∃ arr' el' fr', w'.heap[b]? = _ ∧ _
      by_cases hii : i = id
      · subst hii
        rw [he] at hi
        cases hi
        rcases hent with ⟨rfl, hk⟩ | ⟨b1, ob1, g1, b2, ob2, g2, q, rfl, hg⟩
        · exact hk arr el fr hbl
        · cases q
          have hi'' : addρ X.ρ i (.cl b2 ob2 g2) i = some (.cl b ob g) := hi'
          rw [addρ_same] at hi''
          cases hi''
          omega
      · exact ⟨arr, el, fr, by rw [hoth b (st.bnd i _ hi) (hoblk i _ hi hii)]; exact hbl, Nat.le_refl _⟩
  have hobj := hobj le
  subst hY
  refine ⟨⟨?_, ?_, ?_, ?_, ?_, ?_⟩, ⟨le, hsz, ?_, ?_, fun b hz _ => .inl hz, ?_, ?_, by simp, hio⟩⟩
  · intro i o1 ho hne'
    by_cases hii : i = id
    · subst hii
      rw [List.getElem?_set_self hidl] at ho
      cases ho
      exact ⟨e', addρ_same _ _ _, hobj⟩
    · rw [List.getElem?_set_ne (Ne.symm hii)] at ho
      obtain ⟨e1, he1, hr⟩ := st.obj i o1 ho hne'
      exact ⟨e1, by show addρ _ _ _ _ = _; rw [addρ_ne _ _ _ hii]; exact he1, hr.le le (hoth _ (st.bnd i e1 he1) (hoblk i e1 he1 hii))⟩
  · intro i hi
    have hii : i ≠ id := fun h => by subst h; rw [List.getElem?_set_self hidl] at hi; exact hno hi
    show addρ _ _ _ _ = _
    rw [addρ_ne _ _ _ hii]
    rw [List.getElem?_set_ne (Ne.symm hii)] at hi
    exact st.doms i hi
  · have cross : ∀ j e2, X.ρ j = some e2 → j ≠ id → e'.blk ≠ e2.blk := by
      intro j e2 h2 hj hbl
      rcases hblk with q | q
      · exact hoblk j e2 h2 hj (by rw [← hbl, q])
      · have := st.bnd j _ h2; omega
    intro i j e1 e2 h1 h2 hbl
    simp only [addρ] at h1 h2
    split at h1
    · cases h1
      split at h2
      · omega
      · exact absurd hbl (cross j e2 h2 (by assumption))
    · split at h2
      · cases h2
        exact absurd hbl.symm (cross i e1 h1 (by assumption))
      · exact st.inj i j _ _ h1 h2 hbl
  · intro i e1 h1
    simp only [addρ] at h1
    show e1.blk < w'.heap.size
    split at h1
    · cases h1; exact hlt
    · have := st.bnd i _ h1; omega
  · intro b hz
    have := st.fzb b hz
    exact Nat.lt_of_lt_of_le this hsz
  · intro i e1 o1 h1 ho hf hz
    simp only [addρ] at h1
    split at h1
    · rename_i hii
      subst hii
      cases h1
      rw [List.getElem?_set_self hidl] at ho
      cases ho
      rcases hblk with q | q
      · rw [q] at hz
        exact st.sep i e o he hid (by rw [← hfz]; exact hf) hz
      · have := st.fzb _ hz; omega
    · rename_i hii
      rw [List.getElem?_set_ne (Ne.symm hii)] at ho
      exact st.sep i _ o1 h1 ho hf hz
  · intro b hb hn
    refine hoth b hb fun h => ?_
    exact hn id e hbar he h.symm
  · intro i hi
    show addρ _ _ _ _ = _
    exact addρ_ne _ _ _ (by omega)
  · intro i e1 hi h1 hbl
    simp only [addρ] at h1
    split at h1
    · cases h1
      rcases hblk with q | q
      · exact ⟨id, e, hbar, he, q.symm⟩
      · exact absurd hbl (by omega)
    · exact ⟨i, e1, hi, h1, rfl⟩
  · intro i hi
    rw [List.getElem?_set_ne (by omega)]


/-- An object is written no more: its block is one of those that nobody writes. -/
theorem St.mark (st : St E X H) {id b ob g prot : Nat} {el : TypeId} {cs : List V} {frz : Bool} (hid : H[id]? = some (.cells el cs g prot frz)) (he : X.ρ id = some (.cl b ob g)) (hbar : bar ≤ id) {w' : World} (hsz : w'.heap.size = X.w.heap.size)
    (hoth : ∀ b', b' ≠ b → w'.heap[b']? = X.w.heap[b']?) (hblk : ∀ arr el fr, X.w.heap[b]? = some (.cells arr el fr) → ∃ fr', w'.heap[b]? = some (.cells arr el fr')) {Y : Ctx} (hY : Y = ⟨w', X.ρ, fun b' => X.Fz b' ∨ b' = b⟩) (hio : IO2 X.w w' := by exact ⟨rfl, rfl, rfl⟩) :
    St E Y (H.set id (.cells el cs g prot true)) ∧ Ext bar X H Y (H.set id (.cells el cs g prot true)) := by
  have hidl : id < H.length := (List.getElem?_eq_some_iff.1 hid).1
  have hoblk : ∀ i e1, X.ρ i = some e1 → i ≠ id → e1.blk ≠ b := fun i e1 h1 h2 h3 => h2 (st.inj i id e1 _ h1 he h3)
  have hcell : ∀ b' oo c, X.w.cell? ⟨b', oo, none⟩ = some c → w'.cell? ⟨b', oo, none⟩ = some c := by
    intro b' oo c hc
    by_cases h : b' = b
    · subst h
      simp only [World.cell?] at hc ⊢
      split at hc
      · rename_i arr el2 fr hb
        obtain ⟨fr', hb'⟩ := hblk _ _ _ hb
        rw [hb']; exact hc
      · cases hc
    · rw [cell_heap (hoth b' h) oo]; exact hc
  have le : Le X Y := by
    subst hY
    refine ⟨fun _ h => .inl h, fun b' oo c _ hc => hcell b' oo c hc, fun i b' hi => hi, fun i b' o' g' hi => ⟨b', o', g', hi, Nat.le_refl _, fun _ => ⟨rfl, rfl⟩⟩, fun i b' o' g' arr el2 fr hi _ hb' => ?_⟩
    by_cases h : b' = b
    · subst h
      obtain ⟨fr', h'⟩ := hblk _ _ _ hb'
      exact ⟨arr, el2, fr', h', Nat.le_refl _⟩
    · exact ⟨arr, el2, fr, by rw [← hb']; exact hoth b' h, Nat.le_refl _⟩
  obtain ⟨e0, he0, hr0⟩ := st.obj id _ hid
  rw [he] at he0
  cases he0
  obtain ⟨hg, hg0, arr, fr, hb, hs, hc, _, _⟩ := hr0
  obtain ⟨fr', hb'⟩ := hblk _ _ _ hb
  subst hY
  refine ⟨⟨?_, ?_, st.inj, ?_, ?_, ?_⟩, ⟨le, ?_, ?_, fun _ _ => rfl, ?_, ?_, ?_, by simp, hio⟩⟩
  · intro i o ho hne'
    by_cases hii : i = id
    · subst hii
      rw [List.getElem?_set_self hidl] at ho
      cases ho
      refine ⟨_, he, hg, hg0, arr, fr', hb', hs, fun i v hv => ?_, (fun h => by cases h), (fun _ => Or.inr rfl)⟩
      obtain ⟨c, h1, h2, h3⟩ := hc i v hv
      exact ⟨c, h1, h2, VRel.le le v h3⟩
    · rw [List.getElem?_set_ne (Ne.symm hii)] at ho
      obtain ⟨e1, he1, hr⟩ := st.obj i o ho hne'
      exact ⟨e1, he1, hr.le le (hoth _ (hoblk i e1 he1 hii))⟩
  · intro i hi
    by_cases hii : i = id
    · subst hii; rw [List.getElem?_set_self hidl] at hi; cases hi
    · rw [List.getElem?_set_ne (Ne.symm hii)] at hi
      exact st.doms i hi
  · intro i e1 h1
    show e1.blk < w'.heap.size
    rw [hsz]; exact st.bnd i e1 h1
  · intro b' h
    show b' < w'.heap.size
    rw [hsz]
    rcases h with h | rfl
    · exact st.fzb b' h
    · exact st.bnd id _ he
  · intro i e1 o1 h1 ho hf hz
    by_cases hii : i = id
    · subst hii
      rw [List.getElem?_set_self hidl] at ho
      cases ho
      cases hf
    · rw [List.getElem?_set_ne (Ne.symm hii)] at ho
      rcases hz with hz | hz
      · exact st.sep i e1 o1 h1 ho hf hz
      · exact hoblk i e1 h1 hii hz
  · show X.w.heap.size ≤ w'.heap.size
    rw [hsz]; exact Nat.le_refl _
  · intro b' _ hn
    refine hoth b' fun h => ?_
    exact hn id _ hbar he h.symm
  · intro b' h _
    rcases h with h | rfl
    · exact .inl h
    · exact .inr ⟨id, _, hbar, he, rfl⟩
  · intro i e1 hi h1 _
    exact ⟨i, e1, hi, h1, rfl⟩
  · intro i hi
    rw [List.getElem?_set_ne (by omega)]

end Go.Ev
/- Loads and stores. -/
namespace Go.Ev
open Go
variable {E : Env} {X : Ctx} {env : List V} {a : Act} {o : Oper} {H : Heap} {bar : Nat}

/-- The operation does what the evaluator says. -/
def Does (E : Env) (bar : Nat) (X : Ctx) (H : Heap) (a : Act) (o : Oper) (v : V) (H' : Heap) : Prop :=
  ∃ Y c, St E Y H' ∧ Ext bar X H Y H' ∧ VRel Y v c ∧ ((execOp a.eval o).run E.P X.w = .ok (.value c) Y.w ∨ ((execOp a.eval o).run E.P X.w = .ok .skip Y.w ∧ c = undef))

theorem Gives.does (st : St E X H) {v : V} (h : Gives E X a o v) : Does E bar X H a o v H := by
  obtain ⟨c, h1, h2⟩ := h
  exact ⟨X, c, st, Ext.refl _ _ _, h2, .inl h1⟩

/-- From cells to a value. -/
theorem loadVar_ok {t : TypeId} {k : Lk} (hk : lkOf E t = some k) {cs : List V} {b ob off : Nat} (hc : ∀ i v, cs[i]? = some v → ∃ c, X.w.cell? ⟨b, ob + i, none⟩ = some c ∧ plainC c ∧ VRel X v c) {v : V} (h : Ev.take k cs off = some v) :
    ∃ c, (loadVar t ⟨b, ob + off, none⟩).run E.P X.w = .ok c X.w ∧ VRel X v c := by
  cases k with
  | one =>
    obtain ⟨c, h1, _, h2⟩ := hc off v h
    exact ⟨c, by simp [loadVar, run_isAgg_one hk, h1], h2⟩
  | many n =>
    simp only [Ev.take] at h
    split at h
    · rename_i hle
      cases h
      have key : ∀ (l : List V) (k : Nat), (∀ i v, l[i]? = some v → ∃ c, X.w.cell? ⟨b, k + i, none⟩ = some c ∧ plainC c ∧ VRel X v c) →
          ∃ lc : List Value, LRel X l lc ∧ (∀ x ∈ lc, plainC x) ∧ ∀ j c, lc[j]? = some c → X.w.cell? ⟨b, k + j, none⟩ = some c := by
        intro l
        induction l with
        | nil => intro k _; exact ⟨[], LRel.nil, by simp, by simp⟩
        | cons x l ih =>
          intro k hl
          obtain ⟨c, h1, h2, h3⟩ := hl 0 x (by simp)
          obtain ⟨lc, q1, q2, q3⟩ := ih (k + 1) fun i v hv => by
            have := hl (i + 1) v (by simpa using hv)
            rwa [show k + (i + 1) = k + 1 + i from by omega] at this
          refine ⟨c :: lc, LRel.cons h3 q1, ?_, ?_⟩
          · intro y hy
            rcases List.mem_cons.1 hy with rfl | hy
            · exact h2
            · exact q2 y hy
          · intro j d hd
            cases j with
            | zero => simp at hd; subst hd; simpa using h1
            | succ j =>
              rw [show k + (j + 1) = k + 1 + j from by omega]
              exact q3 j d (by simpa using hd)
      obtain ⟨lc, q1, q2, q3⟩ := key ((cs.drop off).take n) (ob + off) fun i v hv => by
        rw [List.getElem?_take] at hv
        split at hv
        · rw [List.getElem?_drop] at hv
          rw [Nat.add_assoc]
          exact hc _ v hv
        · cases hv
      have hlen : lc.length = n := by
        have := q1.length
        simp at this
        omega
      refine ⟨.agg ⟨lc⟩, ?_, by unfold VRel; exact ⟨lc, rfl, q1, q2⟩⟩
      have hld : (loadCells ⟨b, ob + off, none⟩ n).run E.P X.w = .ok lc.toArray X.w := by
        rw [← hlen]
        exact run_loadCells_list X.w _ lc fun j c hj => by rw [addr_add]; exact q3 j c hj
      simp [loadVar, run_isAgg_many hk, run_sizeOf_many hk, hld]
    · cases h

/-- What an object's cells are, in the machine. -/
theorem obj_cells (st : St E X H) {id g off : Nat} {el : TypeId} {cs : List V} {g' prot : Nat} {frz : Bool} (hH : H[id]? = some (.cells el cs g' prot frz)) :
    ∃ b ob arr fr, X.ρ id = some (.cl b ob g') ∧ X.w.heap[b]? = some (.cells arr el fr) ∧ ob + cs.length ≤ arr.size ∧
      (∀ i v, cs[i]? = some v → ∃ c, arr[ob + i]? = some c ∧ plainC c ∧ VRel X v c) ∧ (frz = false → ∀ x, ob + prot ≤ x → x < arr.size → ¬ (fr.1 ≤ x ∧ x < fr.2)) ∧ (frz = true → X.Fz b) := by
  obtain ⟨e, he, hr⟩ := st.obj id _ hH
  cases e with
  | cl b ob g2 =>
    unfold ObjRel at hr
    obtain ⟨rfl, _, arr, fr, h1, h2, h3, h4, h5⟩ := hr
    exact ⟨b, ob, arr, fr, he, h1, h2, h3, h4, h5⟩
  | ob b => simp [ObjRel] at hr

theorem obj_base (st : St E X H) {id : Nat} {el : TypeId} {cs : List V} {prot : Nat} {frz : Bool} (hH : H[id]? = some (.cells el cs 0 prot frz)) {b ob : Nat} (hρ : X.ρ id = some (.cl b ob 0)) : ob = 0 := by
  obtain ⟨e, he, hr⟩ := st.obj id _ hH
  rw [hρ] at he
  cases he
  exact hr.2.1 rfl

theorem cell_of {w : World} {b : Nat} {arr : Array Value} {el : TypeId} {fr : Nat × Nat} (h : w.heap[b]? = some (.cells arr el fr)) (i : Nat) : w.cell? ⟨b, i, none⟩ = arr[i]? := by
  simp [World.cell?, h]

theorem loadAt_ok (st : St E X H) {t : TypeId} {k : Lk} (hk : lkOf E t = some k) {x v : V} {c : Value} (hx : VRel X x c) (h : loadAt H k x = some v) :
    ∃ d, (Instr.loadAt t c).run E.P X.w = .ok d X.w ∧ VRel X v d := by
  unfold loadAt at h
  split at h
  · rename_i id g off
    split at h
    · rename_i el cs g' prot frz hH
      split at h
      · rename_i hg
        subst hg
        obtain ⟨b, ob, arr, fr, hρ, hb, _, hc, _, _⟩ := obj_cells (g := 0) (off := 0) st hH
        unfold VRel at hx
        obtain ⟨b', ob', g2, ad, hρ', hle, rfl, had⟩ := hx
        rw [hρ] at hρ'
        cases hρ'
        obtain ⟨d, h1, h2⟩ := loadVar_ok hk (b := b) (ob := ob) (cs := cs) (fun i v hv => by
          obtain ⟨c, q1, q2, q3⟩ := hc i v hv
          exact ⟨c, by rw [cell_of hb]; exact q1, q2, q3⟩) h
        refine ⟨d, ?_, h2⟩
        rw [had rfl]
        simp only [Instr.loadAt, Instr.sureAddr, Sem.run_bind, Sem.run_pure, Result.andThen_ok, h1]
      · cases h
    · cases h
  · rename_i cells off
    unfold VRel at hx
    obtain ⟨b, ob, rfl, hcr⟩ := hx
    obtain ⟨d, h1, h2⟩ := loadVar_ok hk (b := b) (ob := ob) (cs := cells) (fun i v hv => by
      obtain ⟨_, c, q1, q2, q3⟩ := hcr.get i v hv
      exact ⟨c, q1, q2, q3⟩) h
    refine ⟨d, ?_, h2⟩
    simp only [Instr.loadAt, Instr.sureAddr, Sem.run_bind, Sem.run_pure, Result.andThen_ok, h1]
  · cases h

theorem load_ok (st : St E X H) (he : LRel X env a.tmps.toList) (hg : Glob E X) {t : TypeId} {k : Lk} {x : Operand} {r : Rd} (ho : o.op = .load t x) (hk : lkOf E t = some k) (hr : lowR E x = some r) {v : V} (hv : loadAt H k (r.ev env) = some v) : Gives E X a o v := by
  obtain ⟨d, h1, h2⟩ := loadAt_ok st hk (lowR_rel he hg hr) hv
  exact ⟨d, by simp [execOp, ho, h1], h2⟩

/-! ### writing cells -/
theorem plain_oneCell {v : Value} (h : plainC v) : v.oneCell' = true := by
  cases v <;> simp_all [plainC, Value.oneCell']

/-- A store of cells, not frozen, within a block. -/
theorem run_storeCells_ok (P : Program) (b : Nat) (t : TypeId) (fr : Nat × Nat) : ∀ (vs : List Value) (oo i : Nat) (cur : Array Value) (w : World), w.heap[b]? = some (.cells cur t fr) → (∀ x, oo + i ≤ x → x < oo + i + vs.length → ¬ (fr.1 ≤ x ∧ x < fr.2)) → oo + i + vs.length ≤ cur.size →
    (∀ v ∈ vs, plainC v) → ∃ w', (storeCells ⟨b, oo, none⟩ vs i).run P w = .ok () w' ∧ IO2 w w' ∧ w'.heap = w.heap.setIfInBounds b (.cells (cur.toList.take (oo + i) ++ vs ++ cur.toList.drop (oo + i + vs.length)).toArray t fr)
  | [], oo, i, cur, w, hg, _, _, _ => by
    refine ⟨w, rfl, ⟨rfl, rfl, rfl⟩, ?_⟩
    have e : (cur.toList.take (oo + i) ++ [] ++ cur.toList.drop (oo + i + ([] : List Value).length)).toArray = cur := by simp
    rw [e]
    apply Array.ext_getElem?
    intro j
    rw [Array.getElem?_setIfInBounds]
    split
    · rename_i hj
      subst hj
      split
      · exact hg
      · rename_i hn
        exact absurd (Array.getElem?_eq_some_iff.1 hg).1 hn
    · rfl
  | v :: rest, oo, i, cur, w, hg, hfz, hl, h1 => by
    simp only [List.length_cons] at hl hfz
    have hlt : oo + i < cur.size := by omega
    have hblt : b < w.heap.size := (Array.getElem?_eq_some_iff.1 hg).1
    have hcell : w.cell? ⟨b, oo + i, none⟩ = some cur[oo + i] := by simp [World.cell?, hg, hlt]
    have hfro : w.frozen? ⟨b, oo + i, none⟩ = false := by
      have := hfz (oo + i) (by omega) (by omega)
      obtain ⟨lo, hi⟩ := fr
      simp only [World.frozen?, hg]
      simp only [Bool.and_eq_false_iff, decide_eq_false_iff_not]
      simp only at this
      omega
    have hset : (w.setCell ⟨b, oo + i, none⟩ v).heap[b]? = some (.cells (cur.setIfInBounds (oo + i) v) t fr) := by
      simp [World.setCell, Array.getElem?_modify, hg]
    have hst : (store ((⟨b, oo, none⟩ : Addr).add i) v).run P w = .ok () (w.setCell ⟨b, oo + i, none⟩ v) := by
      rw [addr_add, run_store P w _ v _ (plain_oneCell (h1 v (by simp))), hcell]
      simp [hfro]
    obtain ⟨w', q1, qio, q2⟩ := run_storeCells_ok P b t fr rest oo (i + 1) (cur.setIfInBounds (oo + i) v) (w.setCell ⟨b, oo + i, none⟩ v) hset (fun x hx1 hx2 => hfz x (by omega) (by omega)) (by simp; omega) (fun x hx => h1 x (by simp [hx]))
    refine ⟨w', ?_, qio, ?_⟩
    · simp only [storeCells, Sem.run_bind, hst, Result.andThen_ok, q1]
    · rw [q2]
      have e := list_seg_step cur.toList (oo + i) v rest (by simp; omega)
      have : (w.setCell ⟨b, oo + i, none⟩ v).heap = w.heap.setIfInBounds b (.cells (cur.setIfInBounds (oo + i) v) t fr) := by
        apply Array.ext_getElem?
        intro j
        simp only [World.setCell, Array.getElem?_modify, Array.getElem?_setIfInBounds]
        by_cases hj : b = j
        · subst hj
          obtain ⟨_, hge⟩ := Array.getElem?_eq_some_iff.1 hg
          simp [hblt, hge]
        · simp [hj]
      rw [this, Array.setIfInBounds_setIfInBounds]
      congr 2
      rw [Array.toList_setIfInBounds]
      simpa [Nat.add_assoc] using congrArg List.toArray e

/-- Cells of an object written. -/
theorem write_ok (st : St E X H) {id g off : Nat} {el : TypeId} {cs : List V} {prot : Nat} (hH : H[id]? = some (.cells el cs g prot false)) (hbar : bar ≤ id) (hp : prot ≤ off) (hoff : off ≤ cs.length) {xs : List V} {lx : List Value} (hx : LRel X xs lx) (hpl : ∀ v ∈ lx, plainC v)
    {b ob : Nat} {arr : Array Value} {fr : Nat × Nat} (hρ : X.ρ id = some (.cl b ob g)) (hb : X.w.heap[b]? = some (.cells arr el fr)) (hfit : ob + off + xs.length ≤ arr.size) :
    ∃ Y, (storeCells ⟨b, ob + off, none⟩ lx).run E.P X.w = .ok () Y.w ∧ St E Y (H.set id (.cells el (Zdb cs off xs) g prot false)) ∧ Ext bar X H Y (H.set id (.cells el (Zdb cs off xs) g prot false)) := by
  obtain ⟨b', ob', arr', fr', hρ', hb', hsz, hc, hfr, hfz⟩ := obj_cells (g := 0) (off := 0) st hH
  rw [hρ] at hρ'
  cases hρ'
  rw [hb] at hb'
  cases hb'
  have hlen := hx.length
  obtain ⟨w', q1, qio, q2⟩ := run_storeCells_ok E.P b el fr lx (ob + off) 0 arr X.w hb (fun x h1 h2 => hfr rfl x (by omega) (by omega)) (by omega) hpl
  simp only [Nat.add_zero] at q2
  have hblt : b < X.w.heap.size := (Array.getElem?_eq_some_iff.1 hb).1
  have hnf : ¬ X.Fz b := st.sep id _ _ hρ hH rfl
  generalize hnew : (arr.toList.take (ob + off) ++ lx ++ arr.toList.drop (ob + off + lx.length)).toArray = narr at q2
  have hnsz : narr.size = arr.size := by rw [← hnew]; simp; omega
  have hb2 : w'.heap[b]? = some (.cells narr el fr) := by rw [q2]; simp [hblt]
  refine ⟨⟨w', addρ X.ρ id (.cl b ob g), X.Fz⟩, q1, st.update (o' := .cells el (Zdb cs off xs) g prot false) hH hρ hbar (by rw [q2]; simp) (fun b1 hb1 hne => ?_) (.inl hnf) (.inl rfl) (by rw [q2]; simpa [Ent.blk] using hblt) (.inl ⟨rfl, fun arr1 el1 fr1 h => ?_⟩) rfl rfl (hio := qio) fun le => ?_⟩
  · have hne' : b ≠ b1 := fun h => hne h.symm
    rw [q2, Array.getElem?_setIfInBounds_ne hne']
  · simp only [Ent.blk] at h ⊢
    rw [hb] at h
    cases h
    exact ⟨narr, el, fr, hb2, by omega⟩
  · obtain ⟨e0, he0, hr0⟩ := st.obj id _ hH
    rw [hρ] at he0
    cases he0
    refine ⟨rfl, hr0.2.1, narr, fr, hb2, ?_, fun i v hv => ?_, fun _ x h1 h2 => hfr rfl x h1 (by omega), fun h => by cases h⟩
    · unfold Zdb; simp; omega
    · unfold Zdb at hv
      have hge : ∀ j : Nat, narr[j]? = (arr.toList.take (ob + off) ++ lx ++ arr.toList.drop (ob + off + lx.length))[j]? := by intro j; rw [← hnew]; simp
      rw [hge]
      by_cases h1 : i < off
      · rw [List.append_assoc, List.getElem?_append_left (by simp; omega), List.getElem?_take_of_lt h1] at hv
        obtain ⟨c, w1, w2, w3⟩ := hc i v hv
        refine ⟨c, ?_, w2, VRel.le le v w3⟩
        rw [List.append_assoc, List.getElem?_append_left (by simp; omega), List.getElem?_take_of_lt (by omega), Array.getElem?_toList]
        exact w1
      · by_cases h2 : i < off + xs.length
        · rw [List.append_assoc, List.getElem?_append_right (by simp; omega), List.getElem?_append_left (by simp; omega)] at hv
          obtain ⟨c, w1, w2⟩ := hx.get _ v hv
          refine ⟨c, ?_, hpl c (List.mem_of_getElem? w1), VRel.le le v w2⟩
          rw [List.append_assoc, List.getElem?_append_right (by simp; omega), List.getElem?_append_left (by simp; omega)]
          rw [← w1]
          congr 1
          simp
          omega
        · rw [List.getElem?_append_right (by simp; omega), List.getElem?_drop] at hv
          obtain ⟨c, w1, w2, w3⟩ := hc _ v hv
          refine ⟨c, ?_, w2, VRel.le le v w3⟩
          rw [List.getElem?_append_right (by simp; omega), List.getElem?_drop, Array.getElem?_toList, ← w1]
          congr 1
          simp
          omega

end Go.Ev
/- Stores, new objects, append, copy. -/
namespace Go.Ev
open Go
variable {E : Env} {X : Ctx} {env : List V} {a : Act} {o : Oper} {H : Heap} {bar : Nat}

theorem writeAt_inv {id g off : Nat} {xs : List V} {H' : Heap} (h : Zck H bar id g off xs = some H') : ∃ el cs prot, H[id]? = some (.cells el cs g prot false) ∧ bar ≤ id ∧ prot ≤ off ∧ off + xs.length ≤ cs.length ∧ H' = H.set id (.cells el (Zdb cs off xs) g prot false) := by
  unfold Zck at h
  split at h
  · rename_i el cs g' prot frz hH
    split at h
    · rename_i hc
      obtain ⟨h1, rfl, rfl, h2, h3⟩ := hc
      cases h
      exact ⟨el, cs, prot, hH, h1, h2, h3, rfl⟩
    · cases h
  · cases h

theorem writeOwn_inv {id g off : Nat} {xs : List V} {H' : Heap} (h : Zbd H bar id g off xs = some H') : ∃ el cs prot, H[id]? = some (.cells el cs g prot false) ∧ bar ≤ id ∧ prot ≤ off ∧ off ≤ cs.length ∧ H' = H.set id (.cells el (Zdb cs off xs) g prot false) := by
  unfold Zbd at h
  split at h
  · rename_i el cs g' prot frz hH
    split at h
    · rename_i hc
      obtain ⟨h1, rfl, rfl, h2, h3⟩ := hc
      cases h
      exact ⟨el, cs, prot, hH, h1, h2, h3, rfl⟩
    · cases h
  · cases h

theorem store_ok (st : St E X H) (he : LRel X env a.tmps.toList) (hg : Glob E X) {t : TypeId} {n : Nat} {x y : Operand} {rx ry : Rd} (ho : o.op = .store t x y) (hn : szOf E t = some n) (hx : lowR E x = some rx) (hy : lowR E y = some ry) {H' : Heap}
    (hv : Zcf H bar n (rx.ev env) (ry.ev env) = some H') : Does E bar X H a o undefV H' := by
  have h1 := lowR_rel he hg hx
  have h2 := lowR_rel he hg hy
  unfold Zcf at hv
  split at hv
  · rename_i id g off e
    split at hv
    · rename_i hc
      obtain ⟨hc1, hc2⟩ := hc
      obtain ⟨el, cs, prot, hH, hb, hp, hle, rfl⟩ := writeAt_inv hv
      obtain ⟨b, ob, arr, fr, hρ, hbl, hsz, _, _, _⟩ := obj_cells (g := 0) (off := 0) st hH
      rw [e] at h1; unfold VRel at h1
      obtain ⟨b', ob', g2, ad, hρ', _, q, had⟩ := h1
      rw [hρ] at hρ'
      cases hρ'
      obtain ⟨hr, hpl⟩ := cells_rel h2 hc2
      obtain ⟨Y, q1, q2, q3⟩ := write_ok (bar := bar) st hH hb hp (by omega) hr hpl hρ hbl (by omega)
      refine ⟨Y, undef, q2, q3, undef_rel, .inr ⟨?_, rfl⟩⟩
      have hsize : (a.eval y).cells.size = n := by
        have := hr.length
        simp at this
        omega
      simp [execOp, ho, Instr.storeAt, q, Instr.sureAddr, storeVar, run_sizeOf_sz hn, hsize, had rfl, q1]
    · cases hv
  · cases hv

/-! ### new objects -/
theorem newCellsAt (st : St E X H) {id : Nat} (hsl : Slot bar H id) {w' : World} {arr : Array Value} {el : TypeId} {cs : List V} {fr : Nat × Nat} (hw : w'.heap = X.w.heap.push (.cells arr el fr)) (hfr : arr.size ≤ fr.1 ∨ fr.2 = 0)
    (hsz : cs.length ≤ arr.size) (hc : LRel X cs (arr.toList.take cs.length)) (hp : ∀ x ∈ arr.toList.take cs.length, plainC x) (hio : IO2 X.w w' := by exact ⟨rfl, rfl, rfl⟩) :
    ∃ Y, Y.w = w' ∧ Y.ρ id = some (.cl X.w.heap.size 0 0) ∧ Y.w.heap[X.w.heap.size]? = some (.cells arr el fr) ∧ St E Y (putNew H id (.cells el cs 0 0 false)) ∧ Ext bar X H Y (putNew H id (.cells el cs 0 0 false)) := by
  have hget : w'.heap[X.w.heap.size]? = some (.cells arr el fr) := by rw [hw]; simp
  refine ⟨⟨w', addρ X.ρ id (.cl X.w.heap.size 0 0), X.Fz⟩, rfl, addρ_same _ _ _, hget, st.allocAt hsl hw rfl rfl rfl (hio := hio) fun le => ?_⟩
  refine ⟨rfl, fun _ => rfl, arr, fr, hget, by omega, fun i v hv => ?_, fun _ x _ h2 => ?_, fun h => by cases h⟩
  · obtain ⟨c, h1, h2⟩ := hc.get i v hv
    have hi : i < cs.length := (List.getElem?_eq_some_iff.1 hv).1
    have := h1
    rw [List.getElem?_take_of_lt hi, Array.getElem?_toList] at h1
    exact ⟨c, by simpa using h1, hp c (List.mem_of_getElem? this), VRel.le le v h2⟩
  · omega

theorem newCells (st : St E X H) (hb : bar ≤ H.length) {w' : World} {arr : Array Value} {el : TypeId} {cs : List V} {fr : Nat × Nat} (hw : w'.heap = X.w.heap.push (.cells arr el fr)) (hfr : arr.size ≤ fr.1 ∨ fr.2 = 0)
    (hsz : cs.length ≤ arr.size) (hc : LRel X cs (arr.toList.take cs.length)) (hp : ∀ x ∈ arr.toList.take cs.length, plainC x) (hio : IO2 X.w w' := by exact ⟨rfl, rfl, rfl⟩) :
    ∃ Y, Y.w = w' ∧ Y.ρ H.length = some (.cl X.w.heap.size 0 0) ∧ Y.w.heap[X.w.heap.size]? = some (.cells arr el fr) ∧ St E Y (H ++ [.cells el cs 0 0 false]) ∧ Ext bar X H Y (H ++ [.cells el cs 0 0 false]) := by
  rw [← putNew_end]
  exact newCellsAt st (Slot.end hb) hw hfr hsz hc hp hio

theorem alloc_okAt (st : St E X H) {id : Nat} (hsl : Slot bar H id) {t : TypeId} {z : V} (ho : o.op = .alloc t) (hz : zeroOf E t = some z) (hzt : Zdp z = false) : Does E bar X H a o (.ptr id 0 0) (putNew H id (.cells t (Zbt z) 0 0 false)) := by
  obtain ⟨c, hr, _, h1, h2⟩ := zeroOf_rel (X := X) hz hzt
  obtain ⟨Y, q1, q2, q3, q4, q5⟩ := newCellsAt (bar := bar) st hsl (w' := { X.w with heap := X.w.heap.push (.cells c.cells t) }) (cs := Zbt z) (el := t) (fr := (0, 0)) rfl (.inr rfl) (by rw [h1.length]; simp) (by rw [List.take_of_length_le (by rw [h1.length]; exact Nat.le_refl _)]; exact h1)
    (fun x hx => h2 x (List.mem_of_mem_take hx))
  refine ⟨Y, .pointer (some ⟨X.w.heap.size, 0, none⟩), q4, q5, ?_, .inl ?_⟩
  · unfold VRel
    exact ⟨X.w.heap.size, 0, 0, _, q2, Nat.le_refl _, rfl, fun _ => rfl⟩
  · rw [q1]
    simp [execOp, ho, Instr.alloc, hr, newVar, newRow, newObj, Sem.run]

theorem alloc_ok (st : St E X H) (hb : bar ≤ H.length) {t : TypeId} {z : V} (ho : o.op = .alloc t) (hz : zeroOf E t = some z) (hzt : Zdp z = false) : Does E bar X H a o (.ptr H.length 0 0) (H ++ [.cells t (Zbt z) 0 0 false]) := by
  rw [← putNew_end]
  exact alloc_okAt st (Slot.end hb) ho hz hzt

theorem box_okAt (st : St E X H) {id : Nat} (hsl : Slot bar H id) (he : LRel X env a.tmps.toList) (hg : Glob E X) {t : TypeId} {x : Operand} {r : Rd} (ho : o.op = .box t x) (hr : lowR E x = some r) (ht : Zdp (r.ev env) = false) :
    Does E bar X H a o (.ptr id 0 0) (putNew H id (.cells t (Zbt (r.ev env)) 0 0 false)) := by
  obtain ⟨h1, h2⟩ := cells_rel (lowR_rel he hg hr) ht
  obtain ⟨Y, q1, q2, q3, q4, q5⟩ := newCellsAt (bar := bar) st hsl (w' := { X.w with heap := X.w.heap.push (.cells (a.eval x).cells t) }) (cs := Zbt (r.ev env)) (el := t) (fr := (0, 0)) rfl (.inr rfl) (by rw [h1.length]; simp) (by rw [List.take_of_length_le (by rw [h1.length]; exact Nat.le_refl _)]; exact h1)
    (fun x hx => h2 x (List.mem_of_mem_take hx))
  refine ⟨Y, .pointer (some ⟨X.w.heap.size, 0, none⟩), q4, q5, ?_, .inl ?_⟩
  · unfold VRel
    exact ⟨X.w.heap.size, 0, 0, _, q2, Nat.le_refl _, rfl, fun _ => rfl⟩
  · rw [q1]
    simp [execOp, ho, Instr.box, newVar, newRow, newObj, Sem.run]

theorem box_ok (st : St E X H) (hb : bar ≤ H.length) (he : LRel X env a.tmps.toList) (hg : Glob E X) {t : TypeId} {x : Operand} {r : Rd} (ho : o.op = .box t x) (hr : lowR E x = some r) (ht : Zdp (r.ev env) = false) :
    Does E bar X H a o (.ptr H.length 0 0) (H ++ [.cells t (Zbt (r.ev env)) 0 0 false]) := by
  rw [← putNew_end]
  exact box_okAt st (Slot.end hb) he hg ho hr ht

/-- A slice over the whole of a new object. -/
theorem own_rel {Y : Ctx} {id n es cap : Nat} {c : Option Nat} {b : Nat} {arr : Array Value} {el : TypeId} {fr : Nat × Nat} (hρ : Y.ρ id = some (.cl b 0 0)) (hb : Y.w.heap[b]? = some (.cells arr el fr)) (hle : n ≤ cap) (hc : ∀ k, c = some k → cap = k) (hsz : cap * es ≤ arr.size) :
    VRel Y (.own id 0 0 n es c) (.slice (some ⟨b, 0, none⟩) n cap) := by
  unfold VRel
  exact ⟨b, 0, 0, ⟨b, 0, none⟩, cap, hρ, Nat.le_refl _, rfl, hle, hc, fun _ => ⟨fun _ => rfl, arr, el, fr, hb, by omega⟩⟩

theorem zerosOf_len (z : List V) : ∀ n, (Zcl z n).length = n * z.length
  | 0 => by simp [Zcl]
  | n + 1 => by simp [Zcl, zerosOf_len z n, Nat.add_mul]; omega

theorem range_zero (z : Array Value) : ∀ n, ((Array.range (n * z.size)).map fun i => z[i % z.size]!).toList = (List.replicate n z.toList).flatten := by
  intro n
  by_cases hz : z.size = 0
  · have : z = #[] := by simpa using hz
    subst this
    simp
  · induction n with
    | zero => simp
    | succ n ih =>
      rw [List.replicate_succ', List.flatten_append, ← ih]
      simp only [Array.toList_map, Array.toList_range, List.flatten_cons, List.flatten_nil, List.append_nil]
      rw [Nat.add_mul, Nat.one_mul, List.range_add, List.map_append]
      congr 1
      rw [List.map_map]
      apply List.ext_getElem?
      intro i
      by_cases hi : i < z.size
      · simp [hi, Nat.mod_eq_of_lt hi]
      · simp [hi]

theorem zeros_rel {z : List V} {lz : List Value} (h : LRel X z lz) : ∀ n, LRel X (Zcl z n) (List.replicate n lz).flatten
  | 0 => by simp [Zcl]; exact LRel.nil
  | n + 1 => by simp only [Zcl, List.replicate_succ, List.flatten_cons]; exact h.append (zeros_rel h n)

theorem zeros_plain {lz : List Value} (h : ∀ x ∈ lz, plainC x) (n : Nat) : ∀ x ∈ (List.replicate n lz).flatten, plainC x := by
  intro x hx
  simp only [List.mem_flatten, List.mem_replicate] at hx
  obtain ⟨l, ⟨_, rfl⟩, hl⟩ := hx
  exact h x hl

theorem mkslice_okAt (st : St E X H) {id : Nat} (hsl : Slot bar H id) (he : LRel X env a.tmps.toList) (hg : Glob E X) {t el : TypeId} {n s : Nat} {ps : Array (Nat × Operand)} (ho : o.op = .buildSlice t n ps) (hu : E.P.underlying t = some (.slice el)) (hs : szOf E el = some s) (hlim : ¬ n * s > 16777216)
    {z : V} (hz : zeroOf E el = some z) (hzt : Zdp z = false) (hzl : (Zbt z).length = s) {l : List (Nat × Nat × Rd)} (hl : lowParts E (fun i => some (i * s, s)) ps.toList = some l) {cs : List V} (hf : Zdo (Zcl (Zbt z) n) (Zbu env l) = some cs) :
    Does E bar X H a o (.own id 0 0 n s (some n)) (putNew H id (.cells el cs 0 0 false)) := by
  obtain ⟨c, hr, _, h1, h2⟩ := zeroOf_rel (X := X) hz hzt
  have hcs : c.cells.size = s := by
    have := h1.length
    simp at this
    omega
  have hzz : ((Array.range (n * s)).map fun i => c.cells[i % c.cells.size]!).toList = (List.replicate n c.cells.toList).flatten := by rw [← hcs]; exact range_zero c.cells n
  obtain ⟨cc, q1, q2, q3⟩ := fill_ok hl he hg (cz := (Array.range (n * s)).map fun i => c.cells[i % c.cells.size]!) hf (by rw [hzz]; exact zeros_rel h1 n) (by rw [hzz]; exact zeros_plain h2 n)
  have hlen : ∀ {zero : List V} {ps : List (Nat × Nat × V)} {cs : List V}, Zdo zero ps = some cs → cs.length = zero.length := by
    intro zero ps
    induction ps generalizing zero with
    | nil => intro cs h; simp only [Zdo, Option.some.injEq] at h; rw [h]
    | cons p ps ih =>
      obtain ⟨o1, n1, v1⟩ := p
      intro cs h
      simp only [Zdo] at h
      split at h
      · rename_i hc
        rw [ih h]
        unfold Zdb
        simp
        omega
      · cases h
  have hcl : cs.length = n * s := by rw [hlen hf, zerosOf_len, hzl]
  have hccl : cc.size = n * s := by have := q2.length; simp at this; omega
  obtain ⟨Y, w1, w2, w3, w4, w5⟩ := newCellsAt (bar := bar) st hsl (w' := { X.w with heap := X.w.heap.push (.cells cc el) }) (cs := cs) (el := el) (fr := (0, 0)) rfl (.inr rfl) (by omega) (by rw [List.take_of_length_le (by simp; omega)]; exact q2) (fun x hx => q3 x (List.mem_of_mem_take hx))
  refine ⟨Y, .slice (some ⟨X.w.heap.size, 0, none⟩) n n, w4, w5, own_rel w2 w3 (Nat.le_refl _) (by simp) (by omega), .inl ?_⟩
  rw [w1]
  have hfill : Instr.fill (fun i => some (i * s, s)) ((Array.range (n * s)).map fun i => c.cells[i % c.cells.size]!) ((ps.map fun (i, x) => (i, a.eval x)).toList) = some cc := by
    rw [Array.toList_map]; exact q1
  have hlim' : ¬ n * s > 2 ^ 24 := hlim
  by_cases h0 : n * s = 0
  · have e0 : ∀ Z : Array Value, ((Array.range (n * s)).map fun i => Z[i % Z.size]!) = #[] := fun Z => by simp [h0]
    rw [e0] at hfill
    simp only [execOp, ho, Instr.buildSlice, Sem.run_bind, run_underlying hu, run_sizeOf_sz hs, Result.andThen_ok, hlim', if_false, if_pos h0, Sem.run_pure, e0, hfill]
    simp [newRow, newObj, Sem.run]
  · simp only [execOp, ho, Instr.buildSlice, Sem.run_bind, run_underlying hu, run_sizeOf_sz hs, Result.andThen_ok, hlim', if_false, h0, Sem.run_pure, hr, hfill]
    simp [newRow, newObj, Sem.run]

theorem mkslice_ok (st : St E X H) (hb : bar ≤ H.length) (he : LRel X env a.tmps.toList) (hg : Glob E X) {t el : TypeId} {n s : Nat} {ps : Array (Nat × Operand)} (ho : o.op = .buildSlice t n ps) (hu : E.P.underlying t = some (.slice el)) (hs : szOf E el = some s) (hlim : ¬ n * s > 16777216)
    {z : V} (hz : zeroOf E el = some z) (hzt : Zdp z = false) (hzl : (Zbt z).length = s) {l : List (Nat × Nat × Rd)} (hl : lowParts E (fun i => some (i * s, s)) ps.toList = some l) {cs : List V} (hf : Zdo (Zcl (Zbt z) n) (Zbu env l) = some cs) :
    Does E bar X H a o (.own H.length 0 0 n s (some n)) (H ++ [.cells el cs 0 0 false]) := by
  rw [← putNew_end]
  exact mkslice_okAt st (Slot.end hb) he hg ho hu hs hlim hz hzt hzl hl hf

end Go.Ev
/- append, copy, clear, make, []byte(s). -/
namespace Go.Ev
open Go
variable {E : Env} {X : Ctx} {env : List V} {a : Act} {o : Oper} {H : Heap} {bar : Nat}

theorem growBy_le (n : Nat) (hn : 256 ≤ n) : ∀ (r c : Nat), c ≤ 2 * n → Builtin.growBy n r c ≤ 2 * n
  | 0, c, h => h
  | r + 1, c, h => by
    unfold Builtin.growBy
    split
    · exact h
    · exact growBy_le n hn r _ (by omega)

theorem nextcap_le {n c : Nat} (h : c < n) : Builtin.nextslicecap n c ≤ 2 * n := by
  unfold Builtin.nextslicecap
  split
  · omega
  · split
    · omega
    · exact growBy_le n (by omega) 4 c (by omega)

theorem byte_rel {X : Ctx} : ∀ l : List UInt8, LRel X (l.map byteV) (l.map fun b => Value.int .u8 b.toNat)
  | [] => LRel.nil
  | b :: l => LRel.cons (by unfold byteV VRel; rfl) (byte_rel l)

theorem byte_plain (l : List UInt8) : ∀ x ∈ l.map (fun b : UInt8 => Value.int .u8 b.toNat), plainC x := by
  intro x hx
  simp only [List.mem_map] at hx
  obtain ⟨b, _, rfl⟩ := hx
  trivial

/-- Cells of related values, out of memory. -/
theorem loadCells_ok {b ob : Nat} : ∀ {l : List V}, (∀ i v, l[i]? = some v → ∃ c, X.w.cell? ⟨b, ob + i, none⟩ = some c ∧ plainC c ∧ VRel X v c) →
    ∃ lc : List Value, (∀ w' : World, w'.heap = X.w.heap → (loadCells ⟨b, ob, none⟩ l.length).run E.P w' = .ok lc.toArray w') ∧ LRel X l lc ∧ ∀ x ∈ lc, plainC x := by
  intro l h
  have key : ∀ (l : List V) (k : Nat), (∀ i v, l[i]? = some v → ∃ c, X.w.cell? ⟨b, k + i, none⟩ = some c ∧ plainC c ∧ VRel X v c) →
      ∃ lc : List Value, LRel X l lc ∧ (∀ x ∈ lc, plainC x) ∧ ∀ j c, lc[j]? = some c → X.w.cell? ⟨b, k + j, none⟩ = some c := by
    intro l
    induction l with
    | nil => intro k _; exact ⟨[], LRel.nil, by simp, by simp⟩
    | cons x l ih =>
      intro k hl
      obtain ⟨c, h1, h2, h3⟩ := hl 0 x (by simp)
      obtain ⟨lc, q1, q2, q3⟩ := ih (k + 1) fun i v hv => by
        have := hl (i + 1) v (by simpa using hv)
        rwa [show k + (i + 1) = k + 1 + i from by omega] at this
      refine ⟨c :: lc, LRel.cons h3 q1, ?_, ?_⟩
      · intro y hy
        rcases List.mem_cons.1 hy with rfl | hy
        · exact h2
        · exact q2 y hy
      · intro j d hd
        cases j with
        | zero => simp at hd; subst hd; simpa using h1
        | succ j =>
          rw [show k + (j + 1) = k + 1 + j from by omega]
          exact q3 j d (by simpa using hd)
  obtain ⟨lc, q1, q2, q3⟩ := key l ob h
  refine ⟨lc, fun w' hw' => ?_, q1, q2⟩
  rw [q1.length]
  exact run_loadCells_list w' _ lc fun j c hj => by
    rw [addr_add, cell_heap (w := X.w) (w' := w') (by rw [hw'])]
    exact q3 j c hj

theorem firstCells_ok (st : St E X H) {es n : Nat} {x : V} {c : Value} {xs : List V} (hx : VRel X x c) (h : Zab H es n x = some xs) :
    ∃ lx : List Value, (∀ w' : World, w'.heap = X.w.heap → (Builtin.firstCells es n c).run E.P w' = .ok lx.toArray w') ∧ LRel X xs lx ∧ (∀ y ∈ lx, plainC y) ∧ xs.length = n * es := by
  unfold Zab at h
  split at h
  · rename_i isNil cp rows
    split at h
    · rename_i hc
      obtain ⟨hn, hok⟩ := hc
      cases h
      unfold VRel at hx
      obtain ⟨ad, ccap, rfl, hle, _, huni, h1, h2⟩ := hx
      have hall := rowsOk_all huni hok
      have hlen : (rows.take n).flatten.length = n * es := by
        rw [flatten_len (fun r hr => hall r (List.mem_of_mem_take hr)), List.length_take]
        congr 1; omega
      cases isNil with
      | true =>
        obtain ⟨rfl, rfl⟩ := h1 rfl
        have : rows = [] := List.eq_nil_of_length_eq_zero (by omega)
        subst this
        simp at hn
        subst hn
        exact ⟨[], fun w' _ => by simp [Builtin.firstCells], by simp; exact LRel.nil, by simp, by simp⟩
      | false =>
        obtain ⟨b, ob, ad0, rfl, hx0, hr⟩ := h2 rfl
        by_cases hne : rows = []
        · subst hne
          simp at hn
          subst hn
          exact ⟨[], fun w' _ => by simp [Builtin.firstCells, loadCells, loadCellsFrom], by simp; exact LRel.nil, by simp, by simp⟩
        cases hx0 hne
        have hcr : CRel X (rows.take n).flatten b ob := by
          have e : rows.flatten = (rows.take n).flatten ++ (rows.drop n).flatten := by rw [← List.flatten_append, List.take_append_drop]
          have := hr.flat
          rw [e] at this
          have := this.take (rows.take n).flatten.length
          rwa [List.take_left'] at this
          rfl
        obtain ⟨lc, q1, q2, q3⟩ := loadCells_ok (E := E) (l := (rows.take n).flatten) (fun i v hv => by
          obtain ⟨_, c, w1, w2, w3⟩ := hcr.get i v hv
          exact ⟨c, w1, w2, w3⟩)
        rw [hlen] at q1
        exact ⟨lc, fun w' hw' => by simpa [Builtin.firstCells] using q1 w' hw', q2, q3, hlen⟩
    · cases h
  · rename_i id g off len es' cp
    split at h
    · rename_i el cs g' prot frz hH
      split at h
      · rename_i hc
        obtain ⟨rfl, rfl, hn, hfit⟩ := hc
        cases h
        obtain ⟨b, ob, arr, fr, hρ, hb, _, hcs, _, _⟩ := obj_cells (g := 0) (off := 0) st hH
        unfold VRel at hx
        obtain ⟨b', ob', g2, ad, ccap, hρ', _, rfl, hle, _, hm⟩ := hx
        rw [hρ] at hρ'
        cases hρ'
        have hlen : ((cs.drop off).take (n * es')).length = n * es' := by simp; omega
        by_cases h0 : n * es' = 0
        · refine ⟨[], fun w' _ => ?_, ?_, by simp, hlen⟩
          · simp [Builtin.firstCells, h0, loadCells, loadCellsFrom]
          · rw [h0]; simp; exact LRel.nil
        · have hn0 : 0 < n := Nat.pos_of_ne_zero (fun e => h0 (by rw [e]; simp))
          have had := (hm rfl).1 (by omega)
          obtain ⟨lc, q1, q2, q3⟩ := loadCells_ok (E := E) (b := b) (ob := ob + off) (l := (cs.drop off).take (n * es')) (fun i v hv => by
            rw [List.getElem?_take] at hv
            split at hv
            · rw [List.getElem?_drop] at hv
              obtain ⟨c, w1, w2, w3⟩ := hcs _ v hv
              exact ⟨c, by rw [cell_of hb, Nat.add_assoc]; exact w1, w2, w3⟩
            · cases hv)
          rw [hlen] at q1
          exact ⟨lc, fun w' hw' => by rw [had]; simpa [Builtin.firstCells] using q1 w' hw', q2, q3, hlen⟩
      · cases h
    · cases h
  · rename_i s
    split at h
    · rename_i hc
      obtain ⟨rfl, hn⟩ := hc
      cases h
      unfold VRel at hx
      subst hx
      refine ⟨(s.take n).map fun b => Value.int .u8 b.toNat, fun w' _ => ?_, byte_rel _, byte_plain _, by simp; omega⟩
      simp only [Builtin.firstCells, Sem.run_pure]
      congr 1
      apply Array.ext'
      simp [ByteArray.data_extract, List.extract_eq_take_drop]
    · cases h
  · cases h

theorem lenOf_ok {v : V} {c : Value} (h : VRel X v c) {n : Nat} (hn : Zdr v = some n) (P : Program) (w : World) : (Builtin.lenOf c).run P w = .ok n w := by
  rcases len_rel h hn with ⟨s, _, rfl, rfl⟩ | ⟨ad, cap, rfl, _⟩
  · simp [Builtin.lenOf, bsize]
  · simp [Builtin.lenOf]

/-- What may stand behind append's comma: a slice, a string. -/
def SlStr (P : Program) (t : TypeId) : Prop := P.underlying t = some .string ∨ ∃ e, P.underlying t = some (.slice e)

theorem append_room {argTypes : Array TypeId} {ty st xt elem : TypeId} {x : Value} {base : Option Addr} {sLen sCap size n : Nat} {w w' : World} {P : Program} (h0 : argTypes[0]? = some st) (h1 : argTypes[1]? = some xt) (hu : P.underlying st = some (.slice elem))
    (hsz : ∀ w, (sizeOf elem).run P w = .ok size w) (hx : SlStr P xt) (hl : (Builtin.lenOf x).run P w = .ok n w) (hroom : sLen + n ≤ sCap) {lx : List Value} (hf : (Builtin.firstCells size n x).run P w = .ok lx.toArray w)
    (hst : (match base with | some a => storeCells (a.add (sLen * size)) lx | none => pure () : Sem Unit).run P w = .ok () w') :
    (Builtin.append_ argTypes ty #[.slice base sLen sCap, x]).run P w = .ok (.slice base (sLen + n) sCap) w' := by
  rcases hx with hx | ⟨e, hx⟩
  all_goals
    cases base with
    | none =>
      have hw : w = w' := by injection hst
      subst hw
      simp only [Builtin.append_, h0, h1]
      simp [run_underlying hu, hsz, run_underlying hx, hl, hroom, hf]
    | some ad =>
      have hst' : (storeCells (ad.add (sLen * size)) lx).run P w = .ok () w' := hst
      simp only [Builtin.append_, h0, h1]
      simp [run_underlying hu, hsz, run_underlying hx, hl, hroom, hf, hst']

theorem run_typeInfo_some {P : Program} {t : TypeId} {i : TypeInfo} (h : P.info? t = some i) (w : World) : (typeInfo t).run P w = .ok i w := by
  simp [typeInfo, h]

theorem run_askRoom {P : Program} (n : Nat) (w : World) : (askRoom n).run P w = .ok () w := by
  unfold askRoom
  split <;> rfl

theorem run_appendCap {P : Program} (need old : Nat) (t : TypeId) (w : World) : ∃ c w', (choose (.appendCap need old t)).run P w = .ok c w' ∧ need ≤ c ∧ w'.heap = w.heap := by
  refine ⟨Question.cut (.appendCap need old t) (w.tape w.drawn (.appendCap need old t)), { w with drawn := w.drawn + 1 }, ?_, ?_, rfl⟩
  · simp [choose, Sem.run, Question.forced]
  · simp [Question.cut]

theorem append_grow {argTypes : Array TypeId} {ty st xt elem : TypeId} {x : Value} {base : Option Addr} {sLen sCap size n : Nat} {w : World} {P : Program} {i : TypeInfo} {zc : Value} (h0 : argTypes[0]? = some st) (h1 : argTypes[1]? = some xt) (hu : P.underlying st = some (.slice elem))
    (hsz : ∀ w, (sizeOf elem).run P w = .ok size w) (hi : P.info? elem = some i) (hz : ∀ w, (zeroValue elem).run P w = .ok zc w) (hx : SlStr P xt) (hl : (Builtin.lenOf x).run P w = .ok n w) (hno : ¬ sLen + n ≤ sCap) (hlim : (sLen + n) * i.bytes ≤ 140737488355328) (hmax : sLen + n ≤ 9223372036854775807)
    {ls lx : List Value} (hso : ∀ w' : World, w'.heap = w.heap → (Builtin.firstCells size sLen (.slice base sLen sCap)).run P w' = .ok ls.toArray w') (hf : ∀ w' : World, w'.heap = w.heap → (Builtin.firstCells size n x).run P w' = .ok lx.toArray w') :
    ∃ c w' rest, sLen + n ≤ c ∧ (Builtin.append_ argTypes ty #[.slice base sLen sCap, x]).run P w = .ok (.slice (some ⟨w.heap.size, 0, none⟩) (sLen + n) c) w' ∧ w'.heap = w.heap.push (.cells (ls ++ lx ++ rest).toArray elem) ∧ rest.length = (c - (sLen + n)) * zc.cells.size ∧ IO2 w w' := by
  have hcap : ¬ Builtin.nextslicecap (sLen + n) sCap * i.bytes > 281474976710656 := by
    have := nextcap_le (n := sLen + n) (c := sCap) (by omega)
    have h2 : Builtin.nextslicecap (sLen + n) sCap * i.bytes ≤ 2 * (sLen + n) * i.bytes := Nat.mul_le_mul_right _ this
    rw [Nat.mul_assoc] at h2
    omega
  have hbig : ¬ (9223372036854775807 < (sLen : Int) + n) := by omega
  have hforced : (Question.appendCap (sLen + n) sCap elem).forced = false := rfl
  have hso1 := hso w.drew rfl
  have hf1 := hf w.drew rfl
  have hle : sLen + n ≤ (Question.appendCap (sLen + n) sCap elem).cut (w.tape w.drawn (.appendCap (sLen + n) sCap elem)) := by simp [Question.cut]
  generalize hc : (Question.appendCap (sLen + n) sCap elem).cut (w.tape w.drawn (.appendCap (sLen + n) sCap elem)) = c at hle
  refine ⟨c, w.drew.alloc (.cells (ls.toArray ++ (lx.toArray ++ Builtin.zeroCells zc.cells (c - (sLen + n)))) elem), (Builtin.zeroCells zc.cells (c - (sLen + n))).toList, hle, ?_, ?_, ?_, ⟨rfl, rfl, rfl⟩⟩
  · rcases hx with hx | ⟨e, hx⟩
    all_goals
      simp only [Builtin.append_, h0, h1]
      simp [run_underlying hu, hsz, run_underlying hx, hl, hno, run_typeInfo_some hi, hcap, hbig, hforced, run_askRoom, hso1, hf1, hz, hc]
      rfl
  · show w.heap.push _ = _
    congr 2
    apply Array.ext'
    simp
  · simp [Builtin.zeroCells]


/-- A new row behind an append that grew. -/
theorem fresh_ok (st : St E X H) (hb : bar ≤ H.length) {el : TypeId} {es n c : Nat} {w' : World} {cs : List V} {lc rest : List Value} (hw : w'.heap = X.w.heap.push (.cells (lc ++ rest).toArray el)) (hc : LRel X cs lc) (hp : ∀ x ∈ lc, plainC x) (hn : n ≤ c) (hsz : c * es ≤ (lc ++ rest).length) (hio : IO2 X.w w' := by exact ⟨rfl, rfl, rfl⟩) :
    ∃ Y, Y.w = w' ∧ St E Y (Zas H el es n cs).2 ∧ Ext bar X H Y (Zas H el es n cs).2 ∧ VRel Y (Zas H el es n cs).1 (.slice (some ⟨X.w.heap.size, 0, none⟩) n c) := by
  have ht : (lc ++ rest).toArray.toList.take cs.length = lc := by
    rw [hc.length]
    simp
  obtain ⟨Y, w1, w2, w3, w4, w5⟩ := newCells (bar := bar) st hb (w' := w') (arr := (lc ++ rest).toArray) (cs := cs) (el := el) (fr := (0, 0)) hw (.inr rfl) (by rw [hc.length]; simp) (by rw [ht]; exact hc) (by rw [ht]; exact hp) hio
  exact ⟨Y, w1, w4, w5, own_rel w2 w3 hn (by simp) (by simpa using hsz)⟩

theorem freshOwn_eq (H : Heap) (t es n : Nat) (cs : List V) : Zas H t es n cs = ((Zas H t es n cs).1, (Zas H t es n cs).2) := rfl

/-- append, the elements being known: its value and heap. -/
theorem appendV_ok (st : St E X H) (hb : bar ≤ H.length) {argTypes : Array TypeId} {ty sty xty el : TypeId} {es by_ : Nat} {s : V} {xs : List V} {m : Nat} {v : V} {H' : Heap} {i : TypeInfo} {z : V} {cs cx : Value}
    (h0 : argTypes[0]? = some sty) (h1 : argTypes[1]? = some xty) (hu : E.P.underlying sty = some (.slice el)) (hes : szOf E el = some es) (hi : E.P.info? el = some i) (hby : i.bytes = by_) (hz : zeroOf E el = some z) (hzt : Zdp z = false) (hzl : (Zbt z).length = es) (hx : SlStr E.P xty)
    (hs : VRel X s cs) (hl : ∀ w, (Builtin.lenOf cx).run E.P w = .ok m w) {lx : List Value} (hf : ∀ w' : World, w'.heap = X.w.heap → (Builtin.firstCells es m cx).run E.P w' = .ok lx.toArray w') (hxr : LRel X xs lx) (hxp : ∀ y ∈ lx, plainC y) (hxl : xs.length = m * es)
    (hv : Zbh H bar el es by_ s xs m = some (v, H')) : ∃ Y c, St E Y H' ∧ Ext bar X H Y H' ∧ VRel Y v c ∧ (Builtin.append_ argTypes ty #[cs, cx]).run E.P X.w = .ok c Y.w := by
  obtain ⟨zc, hzr, _, hz1, _⟩ := zeroOf_rel (X := X) hz hzt
  have hzc : zc.cells.size = es := by
    have := hz1.length
    simp at this
    omega
  have hsz : ∀ w, (sizeOf el).run E.P w = .ok es w := fun w => run_sizeOf_sz hes w
  have hlxl : lx.length = m * es := by rw [← hxr.length]; exact hxl
  have nothing : ∀ {base : Option Addr} {sLen sCap : Nat}, cs = .slice base sLen sCap → sLen ≤ sCap → m = 0 → (Builtin.append_ argTypes ty #[cs, cx]).run E.P X.w = .ok cs X.w := by
    intro base sLen sCap e hle hm
    subst hm
    have : lx = [] := List.eq_nil_of_length_eq_zero (by omega)
    subst this
    rw [e]
    have := append_room (P := E.P) (ty := ty) (base := base) (sLen := sLen) (sCap := sCap) (w' := X.w) h0 h1 hu hsz hx (hl X.w) (by omega) (hf X.w rfl) (by cases base <;> rfl)
    simpa using this
  unfold Zbh at hv
  split at hv
  · rename_i isNil cp rows
    have hs' := hs
    unfold VRel at hs
    obtain ⟨ad, ccap, q, hle, hk, huni, hn, hnn⟩ := hs
    split at hv
    · rename_i hm
      cases hv
      exact ⟨X, cs, st, Ext.refl _ _ _, hs', nothing q hle hm⟩
    · rename_i hm
      split at hv
      · rename_i hc
        obtain ⟨hc1, hc2, hc3⟩ := hc
        have hall := rowsOk_all huni hc3
        have hfl : rows.flatten.length = rows.length * es := flatten_len hall
        have hfc : Zab H es rows.length (.vec isNil cp rows) = some rows.flatten := by simp [Zab, hc3]
        obtain ⟨lo, q1, q2, q3, _⟩ := firstCells_ok (E := E) st hs' hfc
        have hlo : lo.length = rows.length * es := by rw [← q2.length, hfl]
        rw [q] at q1
        have grow : ccap < rows.length + m → ∃ Y c, St E Y (Zas H el es (rows.length + m) (rows.flatten ++ xs)).2 ∧ Ext bar X H Y (Zas H el es (rows.length + m) (rows.flatten ++ xs)).2 ∧
            VRel Y (Zas H el es (rows.length + m) (rows.flatten ++ xs)).1 c ∧ (Builtin.append_ argTypes ty #[cs, cx]).run E.P X.w = .ok c Y.w := by
          intro hlt
          obtain ⟨c, w', rest, g1, g2, g3, g4, gio⟩ := append_grow (P := E.P) (ty := ty) (base := ad) (sLen := rows.length) (sCap := ccap) h0 h1 hu hsz hi hzr hx (hl X.w) (by omega) (by rw [hby]; exact hc1) hc2 q1 hf
          obtain ⟨Y, y1, y2, y3, y4⟩ := fresh_ok (bar := bar) (el := el) (es := es) (n := rows.length + m) (c := c) st hb (cs := rows.flatten ++ xs) (lc := lo ++ lx) (rest := rest) g3 (q2.append hxr) (fun y hy => by
            rcases List.mem_append.1 hy with hy | hy
            · exact q3 y hy
            · exact hxp y hy) g1 (by
            simp only [List.length_append, g4, hzc, hlo, hlxl]
            rw [← Nat.add_mul, ← Nat.add_mul]
            exact Nat.le_of_eq (by congr 1; omega)) gio
          exact ⟨Y, _, y2, y3, y4, by rw [q, g2, y1]⟩
        split at hv
        · rename_i hnil
          obtain ⟨rfl, rfl⟩ := hn hnil
          simp only [Option.some.injEq] at hv
          rw [freshOwn_eq] at hv
          cases hv
          exact grow (by omega)
        · split at hv
          · rename_i c0
            split at hv
            · rename_i hlt
              simp only [Option.some.injEq] at hv
              rw [freshOwn_eq] at hv
              cases hv
              exact grow (by rw [hk c0 rfl]; exact hlt)
            · cases hv
          · cases hv
      · cases hv
  · rename_i id g off len es' cp
    have hs' := hs
    unfold VRel at hs
    obtain ⟨b, ob, gg, ad, ccap, hρ, hgg, q, hle, hk, hm'⟩ := hs
    split at hv
    · rename_i hm
      cases hv
      exact ⟨X, cs, st, Ext.refl _ _ _, hs', nothing q hle hm⟩
    · rename_i hm
      split at hv
      · rename_i hc
        obtain ⟨hc1, hc2, hee⟩ := hc
        obtain rfl : es = es' := hee.symm
        split at hv
        · rename_i elo cs0 g' prot frz hH
          split at hv
          · rename_i hg
            obtain ⟨hg1, hfit⟩ := hg
            obtain rfl : g = g' := hg1.symm
            obtain ⟨b', ob', arr, fr, hρ', hbl, hasz, hcs, hfr, hfz⟩ := obj_cells (g := 0) (off := 0) st hH
            rw [hρ] at hρ'
            injection hρ' with hρ'
            injection hρ' with e1 e2 e3
            obtain rfl : b = b' := e1
            obtain rfl : ob = ob' := e2
            obtain rfl : g = gg := e3.symm
            obtain ⟨hp, arr', el', fr', hb', hroom⟩ := hm' rfl
            clear hm'
            rw [hbl] at hb'
            cases hb'
            have hfc : Zab H es len (.own id g off len es cp) = some ((cs0.drop off).take (len * es)) := by simp [Zab, hH, hfit]
            obtain ⟨lo, q1, q2, q3, q4⟩ := firstCells_ok (E := E) st hs' hfc
            have hlo : lo.length = len * es := by rw [← q2.length, q4]
            rw [q] at q1
            have grow : ccap < len + m → ∃ c w' rest, len + m ≤ c ∧ (Builtin.append_ argTypes ty #[cs, cx]).run E.P X.w = .ok (.slice (some ⟨X.w.heap.size, 0, none⟩) (len + m) c) w' ∧ w'.heap = X.w.heap.push (.cells ((lo ++ lx) ++ rest).toArray el) ∧
                rest.length = (c - (len + m)) * es ∧ IO2 X.w w' := by
              intro hlt
              obtain ⟨c, w', rest, g1, g2, g3, g4, gio⟩ := append_grow (P := E.P) (ty := ty) (base := some ad) (sLen := len) (sCap := ccap) h0 h1 hu hsz hi hzr hx (hl X.w) (by omega) (by rw [hby]; exact hc1) hc2 q1 hf
              exact ⟨c, w', rest, g1, by rw [q]; exact g2, g3, by rw [g4, hzc], gio⟩
            have hsum : ∀ {c : Nat} {rest : List Value}, len + m ≤ c → rest.length = (c - (len + m)) * es → c * es ≤ ((lo ++ lx) ++ rest).length := by
              intro c rest h1 h2
              simp only [List.length_append, h2, hlo, hlxl]
              rw [← Nat.add_mul, ← Nat.add_mul]
              exact Nat.le_of_eq (by congr 1; omega)
            have hpl : ∀ y ∈ lo ++ lx, plainC y := fun y hy => by
              rcases List.mem_append.1 hy with hy | hy
              · exact q3 y hy
              · exact hxp y hy
            have room : len + m ≤ ccap → bar ≤ id → frz = false → prot ≤ off + len * es → ∃ w', (Builtin.append_ argTypes ty #[cs, cx]).run E.P X.w = .ok (.slice (some ad) (len + m) ccap) w' ∧
                (storeCells ⟨b, ob + (off + len * es), none⟩ lx).run E.P X.w = .ok () w' := by
              intro hr1 hr2 hr3 hr4
              subst hr3
              have had := hp (by omega)
              have hmul : (len + m) * es ≤ ccap * es := Nat.mul_le_mul_right _ hr1
              rw [Nat.add_mul] at hmul
              obtain ⟨Y, w1, _, _⟩ := write_ok (bar := bar) (xs := xs) st hH hr2 hr4 hfit hxr hxp hρ hbl (by omega)
              refine ⟨Y.w, ?_, w1⟩
              rw [q]
              refine append_room (P := E.P) (ty := ty) (base := some ad) (sLen := len) (sCap := ccap) h0 h1 hu hsz hx (hl X.w) hr1 (hf X.w rfl) ?_
              show (storeCells (ad.add (len * es)) lx).run E.P X.w = _
              rw [had, addr_add, ← w1]
              congr 3
              omega
            split at hv
            · rename_i c0
              have hcc := hk c0 rfl
              split at hv
              · rename_i hlt
                simp only [Option.some.injEq] at hv
                rw [freshOwn_eq] at hv
                cases hv
                obtain ⟨c, w', rest, g1, g2, g3, g4, gio⟩ := grow (by omega)
                obtain ⟨Y, y1, y2, y3, y4⟩ := fresh_ok (bar := bar) (el := el) (es := es) (n := len + m) (c := c) st hb (cs := (cs0.drop off).take (len * es) ++ xs) (lc := lo ++ lx) (rest := rest) g3 (q2.append hxr) hpl g1 (hsum g1 g4) gio
                exact ⟨Y, _, y2, y3, y4, by rw [g2, y1]⟩
              · rename_i hge
                simp only [Option.map_eq_some_iff] at hv
                obtain ⟨H1, hw, e⟩ := hv
                cases e
                obtain ⟨el2, cs2, prot2, hH2, hb2, hp2, ho2, rfl⟩ := writeOwn_inv hw
                rw [hH] at hH2
                cases hH2
                obtain ⟨w', r1, r2⟩ := room (by omega) hb2 rfl hp2
                have hmul : (len + m) * es ≤ ccap * es := Nat.mul_le_mul_right _ (by omega)
                rw [Nat.add_mul] at hmul
                obtain ⟨Y, w1, w2, w3⟩ := write_ok (bar := bar) (xs := xs) st hH hb2 hp2 hfit hxr hxp hρ hbl (by omega)
                rw [w1] at r2
                injection r2 with _ r2
                refine ⟨Y, _, w2, w3, ?_, by rw [r1, r2]⟩
                have := VRel.le w3.le _ hs'
                unfold VRel at this ⊢
                obtain ⟨b1, ob1, g1, ad1, cc1, u1, u2, u3, u4, u5, u6⟩ := this
                rw [q] at u3
                injection u3 with u31 u32 u33
                injection u31 with u31
                subst u31 u33
                exact ⟨b1, ob1, g1, ad, ccap, u1, u2, rfl, by omega, u5, u6⟩
            · split at hv
              · rename_i hcnd
                obtain ⟨hb2, rfl, hp2, rfl⟩ := hcnd
                cases hv
                have hnf : ¬ X.Fz b := st.sep id _ _ hρ hH rfl
                have hidl := (List.getElem?_eq_some_iff.1 hH).1
                have hblt : b < X.w.heap.size := (Array.getElem?_eq_some_iff.1 hbl).1
                by_cases hr : len + m ≤ ccap
                · -- the elements are written behind the slice's end: the object lies on where the slice begins
                  obtain ⟨w', r1, r2⟩ := room hr hb2 rfl hp2
                  have had := hp (by omega)
                  have hmul : (len + m) * es ≤ ccap * es := Nat.mul_le_mul_right _ hr
                  rw [Nat.add_mul] at hmul
                  obtain ⟨w2, s1, sio, s2⟩ := run_storeCells_ok E.P b elo fr lx (ob + (off + len * es)) 0 arr X.w hbl (fun x h1 h2 => hfr rfl x (by omega) (by omega)) (by omega) hxp
                  rw [s1] at r2
                  injection r2 with _ r2
                  subst r2
                  simp only [Nat.add_zero] at s2
                  generalize hnew : (arr.toList.take (ob + (off + len * es)) ++ lx ++ arr.toList.drop (ob + (off + len * es) + lx.length)).toArray = narr at s2
                  have hnsz : narr.size = arr.size := by rw [← hnew]; simp; omega
                  have hb3 : w2.heap[b]? = some (.cells narr elo fr) := by rw [s2]; simp [hblt]
                  obtain ⟨y1, y2⟩ := st.update (bar := bar) (e' := .cl b (ob + off) (g + 1)) (o' := .cells elo ((cs0.drop off).take (len * es) ++ xs) (g + 1) (prot - off) false) (Y := ⟨w2, addρ X.ρ id (.cl b (ob + off) (g + 1)), X.Fz⟩) hH hρ hb2 (w' := w2)
                    (by rw [s2]; simp) (fun b1 hb1 hne => by
                      have hne' : b ≠ b1 := fun h => hne h.symm
                      rw [s2, Array.getElem?_setIfInBounds_ne hne']) (.inl hnf) (.inl rfl) (by rw [s2]; simpa [Ent.blk] using hblt) (.inr ⟨_, _, _, _, _, _, rfl, rfl, by omega⟩) rfl rfl (hio := sio) (fun le => by
                      refine ⟨rfl, fun h => by omega, narr, fr, hb3, ?_, fun i v hv => ?_, fun _ x h1 h2 => hfr rfl x (by omega) (by omega), fun h => by cases h⟩
                      · rw [List.length_append, q4, hxl]; omega
                      · have hge : ∀ j : Nat, narr[j]? = (arr.toList.take (ob + (off + len * es)) ++ lx ++ arr.toList.drop (ob + (off + len * es) + lx.length))[j]? := by intro j; rw [← hnew]; simp
                        rw [hge]
                        by_cases h1 : i < len * es
                        · rw [List.getElem?_append_left (by rw [q4]; exact h1), List.getElem?_take_of_lt h1, List.getElem?_drop] at hv
                          obtain ⟨c, w1, w2, w3⟩ := hcs _ v hv
                          refine ⟨c, ?_, w2, VRel.le le v w3⟩
                          rw [List.append_assoc, List.getElem?_append_left (by simp; omega), List.getElem?_take_of_lt (by omega), Array.getElem?_toList, ← w1]
                          congr 1
                          omega
                        · rw [List.getElem?_append_right (by rw [q4]; omega), q4] at hv
                          obtain ⟨c, w1, w2⟩ := hxr.get _ v hv
                          have hi : i - len * es < xs.length := (List.getElem?_eq_some_iff.1 hv).1
                          refine ⟨c, ?_, hxp c (List.mem_of_getElem? w1), VRel.le le v w2⟩
                          rw [List.append_assoc, List.getElem?_append_right (by simp; omega), List.getElem?_append_left (by simp; omega), ← w1]
                          congr 1
                          simp
                          omega)
                  refine ⟨⟨w2, addρ X.ρ id (.cl b (ob + off) (g + 1)), X.Fz⟩, _, y1, y2, ?_, r1⟩
                  unfold VRel
                  refine ⟨b, ob + off, g + 1, ad, ccap, addρ_same _ _ _, Nat.le_refl _, rfl, hr, by simp, fun _ => ⟨fun _ => by rw [had, Nat.add_zero], narr, elo, fr, hb3, by omega⟩⟩
                · obtain ⟨c, w', rest, g1, g2, g3, g4, gio⟩ := grow (by omega)
                  have hget : w'.heap[X.w.heap.size]? = some (.cells ((lo ++ lx) ++ rest).toArray elo (0, 0)) := by rw [g3]; simp
                  obtain ⟨y1, y2⟩ := st.update (bar := bar) (e' := .cl X.w.heap.size 0 (g + 1)) (o' := .cells elo ((cs0.drop off).take (len * es) ++ xs) (g + 1) (prot - off) false) (Y := ⟨w', addρ X.ρ id (.cl X.w.heap.size 0 (g + 1)), X.Fz⟩) hH hρ hb2 (w' := w')
                    (by rw [g3]; simp) (fun b1 hb1 _ => by rw [g3]; exact push_get _ _ hb1) (.inl hnf) (.inr (Nat.le_refl _)) (by rw [g3]; simp [Ent.blk]) (.inr ⟨_, _, _, _, _, _, rfl, rfl, by omega⟩) rfl rfl (hio := gio) (fun le => by
                      refine ⟨rfl, fun h => by omega, _, _, hget, ?_, fun i v hv => ?_, fun _ x h1 h2 => by simp, fun h => by cases h⟩
                      · simp; omega
                      · obtain ⟨c, w1, w2⟩ := (q2.append hxr).get i v hv
                        have hi := (List.getElem?_eq_some_iff.1 w1).1
                        refine ⟨c, ?_, hpl c (List.mem_of_getElem? w1), VRel.le le v w2⟩
                        simp only [Nat.zero_add, List.getElem?_toArray]
                        rw [List.getElem?_append_left hi]; exact w1)
                  refine ⟨⟨w', addρ X.ρ id (.cl X.w.heap.size 0 (g + 1)), X.Fz⟩, _, y1, y2, ?_, g2⟩
                  unfold VRel
                  exact ⟨X.w.heap.size, 0, g + 1, _, c, addρ_same _ _ _, Nat.le_refl _, rfl, g1, by simp, fun _ => ⟨fun _ => rfl, _, _, _, hget, by simpa using hsum g1 g4⟩⟩
              · cases hv
          · cases hv
        · cases hv
      · cases hv
  · cases hv

end Go.Ev
/- The rest of the operations on memory. -/
namespace Go.Ev
open Go
variable {E : Env} {X : Ctx} {env : List V} {a : Act} {o : Oper} {H : Heap} {bar : Nat}

theorem append_ok (st : St E X H) (hb : bar ≤ H.length) (he : LRel X env a.tmps.toList) (hg : Glob E X) {c : Call} {t0 t1 el : TypeId} {es by_ : Nat} {s x : Operand} {rs rx : Rd} (ho : o.op = .call c) (hc : c.callee = .builtin .append) (has : c.args = #[s, x])
    (h0 : c.argTypes[0]? = some t0) (h1 : c.argTypes[1]? = some t1) (hs : lowR E s = some rs) (hx : lowR E x = some rx) (hu : E.P.underlying t0 = some (.slice el)) (hes : szOf E el = some es) (hby : byOf E el = some by_) {z : V} (hz : zeroOf E el = some z) (hzt : Zdp z = false) (hzl : (Zbt z).length = es) (hxt : SlStr E.P t1)
    {v : V} {H' : Heap} (hv : opV bar env H (.append el es by_ rs rx) = some (v, H')) : Does E bar X H a o v H' := by
  have r1 := lowR_rel he hg hs
  have r2 := lowR_rel he hg hx
  simp only [opV, Option.bind_eq_bind, Option.bind_eq_some_iff] at hv
  obtain ⟨m, hm, xs, hxs, hv⟩ := hv
  unfold byOf at hby
  simp only [Option.map_eq_some_iff] at hby
  obtain ⟨i, hi, hib⟩ := hby
  obtain ⟨lx, q1, q2, q3, q4⟩ := firstCells_ok (E := E) st r2 hxs
  obtain ⟨Y, d, y1, y2, y3, y4⟩ := appendV_ok (bar := bar) (ty := o.type) st hb h0 h1 hu hes hi hib hz hzt hzl hxt r1 (fun w => lenOf_ok r2 hm E.P w) q1 q2 q3 q4 hv
  refine ⟨Y, d, y1, y2, y3, .inl ?_⟩
  rw [run_builtin ho hc, has]
  simp [builtin, y4]

theorem copy_run {argTypes : Array TypeId} {ty dt el : TypeId} {x : Value} {base : Option Addr} {dLen dCap size n : Nat} {w w' : World} {P : Program} (h0 : argTypes[0]? = some dt) (hu : P.underlying dt = some (.slice el)) (hsz : ∀ w, (sizeOf el).run P w = .ok size w)
    (hl : (Builtin.lenOf x).run P w = .ok n w) {lx : List Value} (hf : (Builtin.firstCells size (min n dLen) x).run P w = .ok lx.toArray w) (hst : (match base with | some a => storeCells a lx | none => pure () : Sem Unit).run P w = .ok () w') :
    (Builtin.copy_ argTypes ty #[.slice base dLen dCap, x]).run P w = .ok (goInt (min n dLen : Nat)) w' := by
  cases base with
  | none =>
    have hw : w = w' := by injection hst
    subst hw
    simp only [Builtin.copy_, h0]
    have hf' : (Builtin.firstCells size (Nat.min n dLen) x).run P w = .ok lx.toArray w := hf
    simp [run_underlying hu, hsz, hl, hf']
  | some ad =>
    have hst' : (storeCells ad lx).run P w = .ok () w' := hst
    simp only [Builtin.copy_, h0]
    have hf' : (Builtin.firstCells size (Nat.min n dLen) x).run P w = .ok lx.toArray w := hf
    simp [run_underlying hu, hsz, hl, hf', hst']

theorem copy_ok (st : St E X H) (he : LRel X env a.tmps.toList) (hg : Glob E X) {c : Call} {t0 el : TypeId} {es : Nat} {d x : Operand} {rd rx : Rd} (ho : o.op = .call c) (hc : c.callee = .builtin .copy) (has : c.args = #[d, x])
    (h0 : c.argTypes[0]? = some t0) (hd : lowR E d = some rd) (hx : lowR E x = some rx) (hu : E.P.underlying t0 = some (.slice el)) (hes : szOf E el = some es) (hes0 : es ≠ 0)
    {v : V} {H' : Heap} (hv : opV bar env H (.copy es rd rx) = some (v, H')) : Does E bar X H a o v H' := by
  have r1 := lowR_rel he hg hd
  have r2 := lowR_rel he hg hx
  have hsz : ∀ w, (sizeOf el).run E.P w = .ok es w := fun w => run_sizeOf_sz hes w
  simp only [opV] at hv
  split at hv
  · rename_i id g off len es' cp hq
    simp only [Option.bind_eq_bind, Option.bind_eq_some_iff] at hv
    obtain ⟨m, hm, xs, hxs, hv⟩ := hv
    obtain ⟨lx, q1, q2, q3, q4⟩ := firstCells_ok (E := E) st r2 hxs
    rw [hq] at r1; unfold VRel at r1
    obtain ⟨b, ob, gg, ad, ccap, hρ, hgg, q, hle, hk, hm'⟩ := r1
    split at hv
    · rename_i hee
      split at hv
      · rename_i hz
        simp only [Option.pure_def, Option.some.injEq] at hv
        cases hv
        have : lx = [] := List.eq_nil_of_length_eq_zero (by rw [← q2.length, q4, hz]; simp)
        subst this
        refine ⟨X, goInt (min m len : Nat), st, Ext.refl _ _ _, by rw [hz]; unfold VRel; rfl, .inl ?_⟩
        rw [run_builtin ho hc, has]
        have := copy_run (P := E.P) (ty := o.type) (base := some ad) (dLen := len) (dCap := ccap) (w' := X.w) h0 hu hsz (lenOf_ok r2 hm E.P X.w) (q1 X.w rfl) rfl
        simp [builtin, q, this]
      · rename_i hnz
        simp only [Option.bind_eq_some_iff, Option.pure_def, Option.some.injEq] at hv
        obtain ⟨H1, hw, e⟩ := hv
        cases e
        obtain ⟨el2, cs2, prot2, hH2, hb2, hp2, ho2, rfl⟩ := writeOwn_inv hw
        obtain ⟨b', ob', arr, fr, hρ', hbl, hasz, hcs, hfr, hfz⟩ := obj_cells (g := 0) (off := 0) st hH2
        rw [hρ] at hρ'
        injection hρ' with hρ'
        injection hρ' with e1 e2 e3
        obtain rfl : b = b' := e1
        obtain rfl : ob = ob' := e2
        obtain rfl : g = gg := e3.symm
        obtain ⟨hp, arr', el', fr', hb', hroom⟩ := hm' rfl
        clear hm'
        rw [hbl] at hb'
        cases hb'
        have hmul : (min m len) * es' ≤ ccap * es' := Nat.mul_le_mul_right _ (by omega)
        rw [hee] at hmul hroom
        obtain ⟨Y, w1, w2, w3⟩ := write_ok (bar := bar) (xs := xs) st hH2 hb2 hp2 ho2 q2 q3 hρ hbl (by omega)
        refine ⟨Y, goInt (min m len : Nat), w2, w3, by unfold VRel; rfl, .inl ?_⟩
        rw [run_builtin ho hc, has]
        have := copy_run (P := E.P) (ty := o.type) (base := some ad) (dLen := len) (dCap := ccap) (w' := Y.w) h0 hu hsz (lenOf_ok r2 hm E.P X.w) (q1 X.w rfl) (by
          show (storeCells ad lx).run E.P X.w = _
          rw [hp (by omega)]; exact w1)
        simp [builtin, q, this]
    · cases hv
  · rename_i isNil cp hq
    simp only [Option.map_eq_some_iff] at hv
    obtain ⟨m, hm, e⟩ := hv
    cases e
    rw [hq] at r1; unfold VRel at r1
    obtain ⟨ad, ccap, q, _, _, _, _, hnn⟩ := r1
    have hl := lenOf_ok r2 hm E.P X.w
    have hfc : ∃ lx : List Value, lx = [] ∧ (Builtin.firstCells es (min m 0) (a.eval x)).run E.P X.w = .ok lx.toArray X.w := by
      refine ⟨[], rfl, ?_⟩
      rcases len_rel r2 hm with ⟨s, _, q', _⟩ | ⟨ad', cap', q', _⟩
      · rw [q']; simp [Builtin.firstCells]
      · rw [q']; cases ad' <;> simp [Builtin.firstCells, loadCells, loadCellsFrom]
    obtain ⟨lx, rfl, hf⟩ := hfc
    refine ⟨X, goInt (min m 0 : Nat), st, Ext.refl _ _ _, by simp; unfold VRel; rfl, .inl ?_⟩
    rw [run_builtin ho hc, has]
    have := copy_run (P := E.P) (ty := o.type) (base := ad) (dLen := 0) (dCap := ccap) (w' := X.w) h0 hu hsz hl hf (by cases ad <;> rfl)
    simp only [List.length_nil] at q
    simp [builtin, q, this]
  · cases hv

theorem zeroCells_eq (z : Array Value) (n : Nat) : (Builtin.zeroCells z n).toList = (List.replicate n z.toList).flatten := range_zero z n

theorem clear_ok (st : St E X H) (he : LRel X env a.tmps.toList) (hg : Glob E X) {c : Call} {t0 el : TypeId} {es : Nat} {x : Operand} {rx : Rd} (ho : o.op = .call c) (hc : c.callee = .builtin .clear) (has : c.args = #[x])
    (h0 : c.argTypes[0]? = some t0) (hx : lowR E x = some rx) (hu : E.P.underlying t0 = some (.slice el)) (hes : szOf E el = some es) {z : V} (hz : zeroOf E el = some z) (hzt : Zdp z = false) (hzl : (Zbt z).length = es)
    {v : V} {H' : Heap} (hv : opV bar env H (.clear es (Zbt z) rx) = some (v, H')) : Does E bar X H a o v H' := by
  have r1 := lowR_rel he hg hx
  obtain ⟨zc, hzr, _, hz1, hz2⟩ := zeroOf_rel (X := X) hz hzt
  simp only [opV] at hv
  split at hv
  · rename_i id g off len es' cp hq
    rw [hq] at r1; unfold VRel at r1
    obtain ⟨b, ob, gg, ad, ccap, hρ, hgg, q, hle, hk, hm'⟩ := r1
    split at hv
    · rename_i hz
      cases hv
      refine ⟨X, .tuple #[], st, Ext.refl _ _ _, undef_rel, .inl ?_⟩
      rw [run_builtin ho hc, has]
      subst hz
      simp [builtin, Builtin.clear_, h0, q, run_underlying hu]
    · rename_i hnz
      split at hv
      · rename_i hee
        simp only [Option.map_eq_some_iff] at hv
        obtain ⟨H1, hw, e⟩ := hv
        cases e
        obtain ⟨el2, cs2, prot2, hH2, hb2, hp2, ho2, rfl⟩ := writeOwn_inv hw
        obtain ⟨b', ob', arr, fr, hρ', hbl, hasz, hcs, hfr, hfz⟩ := obj_cells (g := 0) (off := 0) st hH2
        rw [hρ] at hρ'
        injection hρ' with hρ'
        injection hρ' with e1 e2 e3
        obtain rfl : b = b' := e1
        obtain rfl : ob = ob' := e2
        obtain rfl : g = gg := e3.symm
        obtain ⟨hp, arr', el', fr', hb', hroom⟩ := hm' rfl
        clear hm'
        rw [hbl] at hb'
        cases hb'
        have hmul : len * es' ≤ ccap * es' := Nat.mul_le_mul_right _ hle
        have hzlen : (Zcl (Zbt z) len).length = len * es' := by rw [zerosOf_len, hzl, hee]
        obtain ⟨Y, w1, w2, w3⟩ := write_ok (bar := bar) (xs := Zcl (Zbt z) len) st hH2 hb2 hp2 ho2 (zeros_rel hz1 len) (zeros_plain hz2 len) hρ hbl (by omega)
        refine ⟨Y, .tuple #[], w2, w3, undef_rel, .inl ?_⟩
        rw [run_builtin ho hc, has]
        have hst : (storeCells ad (Builtin.zeroCells zc.cells len).toList).run E.P X.w = .ok () Y.w := by
          rw [hp (by omega), zeroCells_eq]; exact w1
        simp only [builtin, List.map_toArray, List.map_cons, List.map_nil, q]
        cases len with
        | zero => exact absurd rfl hnz
        | succ len =>
          simp [Builtin.clear_, h0, run_underlying hu, hzr, hst]
      · cases hv
  · rename_i isNil cp hq
    cases hv
    rw [hq] at r1; unfold VRel at r1
    obtain ⟨ad, ccap, q, _, _, _, _, hnn⟩ := r1
    refine ⟨X, .tuple #[], st, Ext.refl _ _ _, undef_rel, .inl ?_⟩
    rw [run_builtin ho hc, has]
    simp only [List.length_nil] at q
    cases ad <;> simp [builtin, Builtin.clear_, h0, q, run_underlying hu]
  · cases hv

theorem makesl_ok (st : St E X H) (hb : bar ≤ H.length) (he : LRel X env a.tmps.toList) (hg : Glob E X) {t el : TypeId} {es by_ : Nat} {x y : Operand} {rx ry : Rd} (ho : o.op = .makeSlice t x y) (hx : lowR E x = some rx) (hy : lowR E y = some ry) (hu : E.P.underlying t = some (.slice el)) (hes : szOf E el = some es) (hby : byOf E el = some by_)
    {z : V} (hz : zeroOf E el = some z) (hzt : Zdp z = false) (hzl : (Zbt z).length = es) {v : V} {H' : Heap} (hv : opV bar env H (.makesl el es by_ (Zbt z) rx ry) = some (v, H')) : Does E bar X H a o v H' := by
  have r1 := lowR_rel he hg hx
  have r2 := lowR_rel he hg hy
  obtain ⟨zc, hzr, _, hz1, hz2⟩ := zeroOf_rel (X := X) hz hzt
  have hzc : zc.cells.size = es := by
    have := hz1.length
    simp at this
    omega
  unfold byOf at hby
  simp only [Option.map_eq_some_iff] at hby
  obtain ⟨i, hi, hib⟩ := hby
  simp only [opV] at hv
  split at hv
  · rename_i k l k' c e1 e2
    rw [e1] at r1; rw [e2] at r2; unfold VRel at r1 r2
    split at hv
    · rename_i hc
      obtain ⟨c1, c2, c3, c4⟩ := hc
      cases hv
      obtain ⟨n, rfl⟩ : ∃ n : Nat, l = n := ⟨l.toNat, by omega⟩
      obtain ⟨m, rfl⟩ : ∃ n : Nat, c = n := ⟨c.toNat, by omega⟩
      have w1 : IntKind.i64.wrap n = n := IntWalk.i64_in _ (by omega)
      have w2 : IntKind.i64.wrap m = m := IntWalk.i64_in _ (by omega)
      have hzz : ((Array.range (m * es)).map fun i => zc.cells[i % zc.cells.size]!).toList = (List.replicate m zc.cells.toList).flatten := by rw [← hzc]; exact range_zero zc.cells m
      have hlen : (Zcl (Zbt z) m).length = m * es := by rw [zerosOf_len, hzl]
      obtain ⟨Y, q1, q2, q3, q4, q5⟩ := newCells (bar := bar) st hb (w' := X.w.alloc (.cells ((Array.range (m * es)).map fun i => zc.cells[i % zc.cells.size]!) el)) (cs := Zcl (Zbt z) m) (el := el) (fr := (0, 0)) rfl (.inr rfl) (by simp [hlen])
        (by rw [hzz, List.take_of_length_le (by rw [(zeros_rel hz1 m).length]; exact Nat.le_refl _)]; exact zeros_rel hz1 m) (fun x hx => by rw [hzz] at hx; exact zeros_plain hz2 m x (List.mem_of_mem_take hx))
      refine ⟨Y, .slice (some ⟨X.w.heap.size, 0, none⟩) n m, ?_, ?_, ?_, .inl ?_⟩
      · simpa using q4
      · simpa using q5
      · simpa using own_rel (n := n) (es := es) (cap := m) (c := some m) q2 q3 (by omega) (by simp) (by simp)
      · rw [q1]
        have hno : ¬ ((m : Int) < 0) := by omega
        have hbig : ¬ ((by_ : Int) * m > 281474976710656) := by omega
        have hnl : ¬ ((n : Int) < 0) := by omega
        have hgt : ¬ ((n : Int) > m) := by omega
        by_cases h0 : m * es = 0
        · simp [execOp, ho, Instr.makeSlice, run_underlying hu, r1, r2, Go.asInt, asIntOf, run_typeInfo_some hi, hib, w1, w2, hno, hbig, hnl, hgt, run_askRoom, run_sizeOf_sz hes, h0]
          have er : Array.range 0 = #[] := by decide
          simp only [er, Array.map_empty]
          rfl
        · simp [execOp, ho, Instr.makeSlice, run_underlying hu, r1, r2, Go.asInt, asIntOf, run_typeInfo_some hi, hib, w1, w2, hno, hbig, hnl, hgt, run_askRoom, run_sizeOf_sz hes, h0, hzr]
          rfl
    · cases hv
  · cases hv

end Go.Ev
/- Texts and bytes, unsafe texts, pointers compared. -/
namespace Go.Ev
open Go
variable {E : Env} {X : Ctx} {env : List V} {a : Act} {o : Oper} {H : Heap} {bar : Nat}

theorem run_newRow (P : Program) (t : TypeId) (arr : Array Value) (w : World) : (newRow t arr).run P w = .ok ⟨w.heap.size, 0, none⟩ (w.alloc (.cells arr t)) := rfl

theorem freeze_heap {w : World} {b oo n : Nat} {arr : Array Value} {el : TypeId} {fr : Nat × Nat} (hb : w.heap[b]? = some (.cells arr el fr)) (hn : n ≠ 0) :
    (w.freeze ⟨b, oo, none⟩ n).heap = w.heap.setIfInBounds b (.cells arr el (if fr.1 = fr.2 then (oo, oo + n) else (min fr.1 oo, max fr.2 (oo + n)))) := by
  obtain ⟨hlt, hge⟩ := Array.getElem?_eq_some_iff.1 hb
  apply Array.ext_getElem?
  intro j
  simp only [World.freeze, hn, if_false, Array.getElem?_modify, Array.getElem?_setIfInBounds]
  by_cases hj : b = j
  · subst hj
    obtain ⟨lo, hi⟩ := fr
    simp only [if_true, hb, Option.map_some, hlt]
    by_cases hlh : lo = hi <;> simp [hlh]
  · simp [hj]

theorem run_markStringish {P : Program} {w : World} {b oo : Nat} {arr : Array Value} {el : TypeId} {fr : Nat × Nat} (hb : w.heap[b]? = some (.cells arr el fr)) : (markStringish ⟨b, oo, none⟩).run P w = .ok () (w.freeze ⟨b, arr.size, none⟩ 1) := by
  have hsh : w.shape? b = some (el, arr.size) := by simp [World.shape?, hb]
  simp [markStringish, shape, Sem.run, hsh, freeze]

theorem strBytes_ok (st : St E X H) (hb : bar ≤ H.length) (he : LRel X env a.tmps.toList) (hg : Glob E X) {s d el : TypeId} {x : Operand} {r : Rd} (ho : o.op = .convert s d x) (hr : lowR E x = some r) (hs : E.P.underlying s = some .string) (hd : E.P.underlying d = some (.slice el)) (hel : E.P.underlying el = some (.int .u8))
    {l : List UInt8} (hl : r.ev env = .str l) : Does E bar X H a o (Zas H el 1 l.length (l.map byteV)).1 (Zas H el 1 l.length (l.map byteV)).2 := by
  have h := lowR_rel he hg hr
  rw [hl] at h; unfold VRel at h
  have hforced : (Question.appendCap l.length 0 el).forced = false := rfl
  have hle : l.length ≤ (Question.appendCap l.length 0 el).cut (X.w.tape X.w.drawn (.appendCap l.length 0 el)) := by simp [Question.cut]
  generalize hc : (Question.appendCap l.length 0 el).cut (X.w.tape X.w.drawn (.appendCap l.length 0 el)) = c at hle
  generalize harr : (l.toArray.map fun b => Value.int .u8 b.toNat) ++ Array.replicate (c - l.length) (.int .u8 0) = arr
  have hasz : arr.size = c := by rw [← harr]; simp; omega
  have hget : (X.w.drew.alloc (.cells arr el)).heap[X.w.heap.size]? = some (.cells arr el (0, 0)) := by
    show (X.w.heap.push _)[_]? = _
    simp
  have hw2 : ((X.w.drew.alloc (.cells arr el)).freeze ⟨X.w.heap.size, c, none⟩ 1).heap = X.w.heap.push (.cells arr el (c, c + 1)) := by
    rw [freeze_heap hget (by decide)]
    apply Array.ext_getElem?
    intro j
    show ((X.w.heap.push _).setIfInBounds _ _)[j]? = _
    rw [Array.getElem?_setIfInBounds]
    by_cases hj : X.w.heap.size = j
    · subst hj; simp
    · simp [hj, Array.getElem?_push, Ne.symm hj]
  have htake : arr.toList.take (l.map byteV).length = l.map fun b => Value.int .u8 b.toNat := by rw [← harr]; simp
  obtain ⟨Y, q1, q2, q3, q4, q5⟩ := newCells (bar := bar) st hb (arr := arr) (cs := l.map byteV) (el := el) (fr := (c, c + 1)) hw2 (.inl (by omega)) (by simp; omega) (by rw [htake]; exact byte_rel l) (fun x hx => by rw [htake] at hx; exact byte_plain l x hx)
  refine ⟨Y, .slice (some ⟨X.w.heap.size, 0, none⟩) l.length c, q4, q5, own_rel q2 q3 hle (by simp) (by omega), .inl ?_⟩
  rw [q1]
  have hm := run_markStringish (P := E.P) (oo := 0) hget
  rw [hasz] at hm
  have harr' : (List.map (fun b : UInt8 => Value.int .u8 b.toNat) l).toArray ++ Array.replicate (c - l.length) (.int .u8 0) = arr := by rw [← harr]; simp
  have hnr : ∀ w : World, w.heap.size = X.w.heap.size → (newRow el arr).run E.P w = .ok ⟨X.w.heap.size, 0, none⟩ (w.alloc (.cells arr el)) := fun w hw => by rw [run_newRow, hw]
  simp [execOp, ho, convert, run_underlying hs, run_underlying hd, run_underlying hel, h, Conv.stringToBytes, bsize, hforced, hc, harr', hnr X.w.drew rfl, hm]

theorem bytesOf_cells : ∀ {cs : List V} {lc : List Value} {b : List UInt8}, LRel X cs lc → bytesOf cs = some b → ∃ ns : List Int, lc = ns.map (Value.int .u8) ∧ b = ns.map fun n => UInt8.ofNat n.toNat
  | [], _, b, h, hb => by
    rw [LRel.nil_iff.1 h]
    simp only [bytesOf, Option.some.injEq] at hb
    subst hb
    exact ⟨[], rfl, rfl⟩
  | v :: cs, lc, b, h, hb => by
    unfold LRel at h
    obtain ⟨c, r, rfl, hv, hr⟩ := h
    have key : ∃ n b', v = .int .u8 n ∧ bytesOf cs = some b' ∧ b = UInt8.ofNat n.toNat :: b' := by
      unfold bytesOf at hb
      split at hb
      · rename_i e; cases e
      · rename_i n r' e
        cases e
        simp only [Option.map_eq_some_iff] at hb
        obtain ⟨b', h1, h2⟩ := hb
        exact ⟨n, b', rfl, h1, h2.symm⟩
      · cases hb
    obtain ⟨n, b', rfl, hb', rfl⟩ := key
    obtain ⟨ns, rfl, rfl⟩ := bytesOf_cells hr hb'
    unfold VRel at hv
    subst hv
    exact ⟨n :: ns, rfl, rfl⟩

theorem foldl_push (ns : List Int) : ∀ acc : ByteArray, ns.foldl (fun r n => r.push (UInt8.ofNat n.toNat)) acc = ⟨acc.data ++ (ns.map fun n => UInt8.ofNat n.toNat).toArray⟩ := by
  induction ns with
  | nil => intro acc; simp
  | cons n ns ih =>
    intro acc
    rw [List.foldl_cons, ih]
    apply ByteArray.ext
    simp [ByteArray.push]

theorem bytesStr_ok (st : St E X H) (he : LRel X env a.tmps.toList) (hg : Glob E X) {s d el : TypeId} {x : Operand} {r : Rd} (ho : o.op = .convert s d x) (hr : lowR E x = some r) (hs : E.P.underlying s = some (.slice el)) (hd : E.P.underlying d = some .string) (hel : E.P.underlying el = some (.int .u8))
    {v : V} {H' : Heap} (hv : convV H .bytesStr (r.ev env) = some (v, H')) : H' = H ∧ Gives E X a o v := by
  have h := lowR_rel he hg hr
  simp only [convV, Option.bind_eq_bind, Option.bind_eq_some_iff] at hv
  obtain ⟨n, hn, hv⟩ := hv
  split at hv
  · cases hv
  · rename_i hns
    simp only [Option.bind_eq_some_iff, Option.pure_def, Option.some.injEq] at hv
    obtain ⟨cs, hcs, b, hbo, e⟩ := hv
    cases e
    refine ⟨rfl, ?_⟩
    obtain ⟨lx, q1, q2, q3, q4⟩ := firstCells_ok (E := E) st h hcs
    obtain ⟨ns, rfl, rfl⟩ := bytesOf_cells q2 hbo
    rcases len_rel h hn with ⟨s', e1, _, _⟩ | ⟨ad, cap, q, _⟩
    · exact absurd e1 (hns s')
    · refine ⟨.string ⟨(ns.map fun n => UInt8.ofNat n.toNat).toArray⟩, ?_, by unfold VRel; rfl⟩
      have hfc := q1 X.w rfl
      rw [q] at hfc
      cases ad with
      | none =>
        simp [Builtin.firstCells] at hfc
        subst hfc
        simp [execOp, ho, convert, run_underlying hs, run_underlying hd, run_underlying hel, q, Conv.bytesToString]
        rfl
      | some ad =>
        have hld : (loadCells ad n).run E.P X.w = .ok (ns.map (Value.int .u8)).toArray X.w := by simpa [Builtin.firstCells] using hfc
        have := run_bytesToString (P := E.P) X.w ad n cap ns hld
        rw [foldl_push] at this
        simp [execOp, ho, convert, run_underlying hs, run_underlying hd, run_underlying hel, q, this]

/-! ### unsafe.Pointer and back -/
theorem run_noView {P : Program} {w : World} {b : Nat} {arr : Array Value} {el : TypeId} {fr : Nat × Nat} (hb : w.heap[b]? = some (.cells arr el fr)) : (viewAt b).run P w = .ok none w := by
  have hsh : w.shape? b = some (el, arr.size) := by simp [World.shape?, hb]
  simp [viewAt, shape, Sem.run, hsh]

theorem run_seenAt {P : Program} {w : World} {b oo : Nat} {arr : Array Value} {el : TypeId} {fr : Nat × Nat} (hb : w.heap[b]? = some (.cells arr el fr)) : (Conv.seenAt ⟨b, oo, none⟩).run P w = .ok ⟨b, oo, none⟩ w := by
  simp [Conv.seenAt, run_noView hb]

theorem ptr_inv (st : St E X H) {id g off : Nat} {el : TypeId} {cs : List V} {prot : Nat} {frz : Bool} (hH : H[id]? = some (.cells el cs g prot frz)) {c : Value} (h : VRel X (.ptr id g off) c) :
    ∃ b ob arr fr, X.ρ id = some (.cl b ob g) ∧ c = .pointer (some ⟨b, ob + off, none⟩) ∧ X.w.heap[b]? = some (.cells arr el fr) ∧ ob + cs.length ≤ arr.size ∧
      (∀ i v, cs[i]? = some v → ∃ c, arr[ob + i]? = some c ∧ plainC c ∧ VRel X v c) ∧ (frz = false → ∀ x, ob + prot ≤ x → x < arr.size → ¬ (fr.1 ≤ x ∧ x < fr.2)) ∧ (frz = true → X.Fz b) := by
  obtain ⟨b, ob, arr, fr, hρ, hb, hsz, hcs, hfr, hfz⟩ := obj_cells (g := 0) (off := 0) st hH
  unfold VRel at h
  obtain ⟨b', ob', g2, ad, hρ', _, rfl, had⟩ := h
  rw [hρ] at hρ'
  injection hρ' with hρ'
  injection hρ' with e1 e2 e3
  obtain rfl : b = b' := e1
  obtain rfl : ob = ob' := e2
  obtain rfl : g = g2 := e3
  exact ⟨b, ob, arr, fr, hρ, by rw [had rfl], hb, hsz, hcs, hfr, hfz⟩

theorem toUnsafe_ok (st : St E X H) (he : LRel X env a.tmps.toList) (hg : Glob E X) {s d u : TypeId} {x : Operand} {r : Rd} {n : Nat} (ho : o.op = .convert s d x) (hr : lowR E x = some r) (hs : E.P.underlying s = some (.pointer u)) (hd : E.P.underlying d = some .unsafePointer) (hn : szOf E u = some (n + 1))
    {v : V} {H' : Heap} (hv : convV H .toUnsafe (r.ev env) = some (v, H')) : H' = H ∧ Gives E X a o v := by
  have h := lowR_rel he hg hr
  cases hx : r.ev env <;> rw [hx] at hv <;> simp only [convV] at hv <;> (try (cases hv; done)) <;> rw [hx] at h
  · cases hv
    have h' := h
    unfold VRel at h
    exact ⟨rfl, _, by simp [execOp, ho, convert, run_underlying hs, run_underlying hd, h, Conv.unsafePointer]; rfl, by unfold VRel; rfl⟩
  · rename_i id g off
    split at hv
    · rename_i el cs g' prot frz hH
      split at hv
      · rename_i hc
        obtain ⟨hgg, hoff⟩ := hc
        obtain rfl : g' = g := hgg
        cases hv
        obtain ⟨b, ob, arr, fr, hρ, q, hb, hsz, _, _, _⟩ := ptr_inv st hH h
        refine ⟨rfl, a.eval x, ?_, h⟩
        have hsh : X.w.shape? b = some (el, arr.size) := by simp [World.shape?, hb]
        have hci : (cellsIn b).run E.P X.w = .ok (some arr.size) X.w := by simp [cellsIn, shape, Sem.run, hsh]
        have hlt : ¬ arr.size ≤ ob + off := by omega
        simp [execOp, ho, convert, run_underlying hs, run_underlying hd, q, Conv.unsafePointer, run_seenAt hb, hci, run_sizeOf_sz hn, hlt]
      · cases hv
    · cases hv

theorem variablesAt_row {P : Program} {w : World} {b oo n : Nat} {arr : Array Value} {el : TypeId} {fr : Nat × Nat} (hb : w.heap[b]? = some (.cells arr el fr)) (hs : P.cellsOf el ≠ 0) (hmod : oo % P.cellsOf el = 0) (hfit : oo / P.cellsOf el + n ≤ arr.size / P.cellsOf el) :
    (variablesAt ⟨b, oo, none⟩ el n).run P w = .ok true w := by
  have hsh : w.shape? b = some (el, arr.size) := by simp [World.shape?, hb]
  have hd : P.depth = (2 * (P.types.size + Made.depth) + 1) + 1 := rfl
  have hl : liesAt P P.depth el (arr.size / P.cellsOf el) oo el n = true := by
    rw [hd]
    simp only [liesAt, Bool.or_eq_true]
    left
    rw [hd]
    simp [rowAt, hs, hmod, hfit, sameLayout]
  simp [variablesAt, shape, Sem.run, hsh, hl]

theorem ofUnsafe_ok (st : St E X H) (he : LRel X env a.tmps.toList) (hg : Glob E X) {s d u : TypeId} {x : Operand} {r : Rd} {n : Nat} (ho : o.op = .convert s d x) (hr : lowR E x = some r) (hs : E.P.underlying s = some .unsafePointer) (hd : E.P.underlying d = some (.pointer u)) (hn : szOf E u = some (n + 1)) (hcl : E.P.cellsOf u = n + 1)
    {v : V} {H' : Heap} (hv : convV H (.ofUnsafe u (n + 1)) (r.ev env) = some (v, H')) : H' = H ∧ Gives E X a o v := by
  have h := lowR_rel he hg hr
  cases hx : r.ev env <;> rw [hx] at hv <;> simp only [convV] at hv <;> (try (cases hv; done)) <;> rw [hx] at h
  · cases hv
    unfold VRel at h
    exact ⟨rfl, _, by simp [execOp, ho, convert, run_underlying hs, run_underlying hd, h, Conv.unsafePointer]; rfl, by unfold VRel; rfl⟩
  · rename_i id g off
    split at hv
    · rename_i el cs g' prot frz hH
      split at hv
      · rename_i hc
        obtain ⟨hgg, hg0, hel, hoff, hlen⟩ := hc
        subst hgg
        subst hg0 hel hoff
        cases hv
        obtain ⟨b, ob, arr, fr, hρ, q, hb, hsz, _, _, _⟩ := ptr_inv st hH h
        have hob := obj_base st hH hρ
        subst hob
        refine ⟨rfl, a.eval x, ?_, h⟩
        have hva := variablesAt_row (P := E.P) (oo := 0) (n := 1) hb (by omega) (by simp) (by
          rw [hcl]
          simp only [Nat.zero_div, Nat.zero_add]
          exact Nat.div_pos (by omega) (by omega))
        simp [execOp, ho, convert, run_underlying hs, run_underlying hd, q, Conv.unsafePointer, run_seenAt hb, run_sizeOf_sz hn, hva]
      · cases hv
    · cases hv

end Go.Ev
