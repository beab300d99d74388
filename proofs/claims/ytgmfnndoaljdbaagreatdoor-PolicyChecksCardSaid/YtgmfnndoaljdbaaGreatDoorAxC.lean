/- The resolved operations: what each computes on abstract values. -/
import Derived.Test.YtgmfnndoaljdbaaGreatDoorAxB
import Derived.ChangeKeysEq
set_option linter.all false
namespace Go.Ax
open Go

/- the kinds of cells that '==' compares; the kinds of values that are held against nil -/
inductive Leaf where
  | b | i | s
  deriving Inhabited, DecidableEq, Repr
inductive NilC where
  | ptr | slice | map | func | iface
  deriving Inhabited, DecidableEq, Repr

inductive LOp where
  | mov (x : LOpd)
  | pick (c a b : LOpd)
  | new (elem : TypeId) (x : LOpd)
  | build (zero : List AV) (parts : List (Nat × Nat × LOpd))
  | buildS (elem : TypeId) (len : Nat) (zero : List AV) (parts : List (Nat × Nat × LOpd))
  | load1 (a : LOpd)
  | loadN (n : Nat) (a : LOpd)
  | store (n : Nat) (a v : LOpd)
  | nilchk (x : LOpd)
  | arith (op : BinOp) (x y : LOpd)
  | eqT (neg : Bool) (ks : List Leaf) (x y : LOpd)
  | eqN (neg : Bool) (c : NilC) (x y : LOpd)
  | eqB (neg : Bool) (x y : LOpd)
  | un (op : UnOp) (x : LOpd)
  | cvt (k : IntKind) (x : LOpd)
  | cvS (x : LOpd)
  | mkI (t : TypeId) (x : LOpd)
  | mkF (f : Fn) (first caps : List LOpd)
  | mkS (elem es bytes : Nat) (zero : List AV) (l c : LOpd)
  | slA (n es : Nat) (x : LOpd) (lo hi mx : Option LOpd)
  | slS (es : Nat) (x : LOpd) (lo hi mx : Option LOpd)
  | slStr (x : LOpd) (lo hi : Option LOpd)
  | fadd (off : Nat) (x : LOpd)
  | fld (off sz : Nat) (agg : Bool) (x : LOpd)
  | ixA (n es : Nat) (x i : LOpd)
  | ixS (es : Nat) (x i : LOpd)
  | ixV (n es : Nat) (agg : Bool) (x i : LOpd)
  | ixStr (x i : LOpd)
  | lenS (x : LOpd)
  | lenStr (x : LOpd)
  | lenA (n : Nat)
  | ext (k : Nat) (x : LOpd)
  | app (elem es bytes : Nat) (s x : LOpd)
  deriving Inhabited

/- arithmetic and comparisons of one-cell values -/
def arithAV (op : BinOp) : AV → AV → Option AV
  | .int k a, .int k' b =>
    match op with
    | .shl => if b < 0 then none else some (.int k (k.wrap (a * 2 ^ (min b.toNat k.bits))))
    | .shr => if b < 0 then none else some (.int k (a.fdiv (2 ^ (min b.toNat k.bits))))
    | _ =>
      if k = k' then
        match op with
        | .add => some (.int k (k.wrap (a + b)))
        | .sub => some (.int k (k.wrap (a - b)))
        | .mul => some (.int k (k.wrap (a * b)))
        | .quo => if b = 0 then none else some (.int k (k.wrap (a.tdiv b)))
        | .rem => if b = 0 then none else some (.int k (a.tmod b))
        | .and | .or | .xor | .andNot => some (.int k (bits op k a b))
        | .eql => some (.bool (a == b))
        | .neq => some (.bool (a != b))
        | .lss => some (.bool (a < b))
        | .leq => some (.bool (a ≤ b))
        | .gtr => some (.bool (b < a))
        | .geq => some (.bool (b ≤ a))
        | _ => none
      else none
  | .str a, .str b =>
    match op with
    | .add => if a.length + b.length ≤ 9223372036854775807 then some (.str (a ++ b)) else none
    | .eql => some (.bool (a == b))
    | .neq => some (.bool (a != b))
    | .lss => some (.bool (Op.bytesLess a b))
    | _ => none
  | _, _ => none

/- '==' on values of plain types, cell by cell -/
def eq1 : Leaf → AV → AV → Option Bool
  | .b, .bool a, .bool b => some (a == b)
  | .i, .int k a, .int k' b => if k = k' then some (a == b) else none
  | .s, .str a, .str b => some (a == b)
  | _, _, _ => none
def eqCells : List Leaf → List AV → List AV → Option Bool
  | [], [], [] => some true
  | k :: ks, a :: l, b :: m =>
    match eq1 k a b, eqCells ks l m with
    | some x, some y => some (x && y)
    | _, _ => none
  | _, _, _ => none
/- '==' of two values, at least one of them nil -/
def eqNil : NilC → AV → AV → Option Bool
  | .ptr, .nilptr, .nilptr => some true
  | .ptr, .nilptr, .ptr _ _ => some false
  | .ptr, .ptr _ _, .nilptr => some false
  | .iface, .niliface, .niliface => some true
  | .iface, .niliface, .iface _ _ => some false
  | .iface, .iface _ _, .niliface => some false
  | .slice, .nilslice, .nilslice => some true
  | .slice, .nilslice, .slice _ _ _ _ => some false
  | .slice, .slice _ _ _ _, .nilslice => some false
  | .map, .nilmap, .nilmap => some true
  | .map, .nilmap, .map _ => some false
  | .map, .map _, .nilmap => some false
  | .func, .nilfunc, .nilfunc => some true
  | .func, .nilfunc, .func _ _ _ => some false
  | .func, .func _ _ _, .nilfunc => some false
  | _, _, _ => none

def fillL (cells : List AV) : List (Nat × Nat × List AV) → Option (List AV)
  | [] => some cells
  | (off, sz, vs) :: rest =>
    if vs.length = sz ∧ off + sz ≤ cells.length then fillL (cells.take off ++ vs ++ cells.drop (off + sz)) rest else none

def LOpd.vals (tm : LTm) : List LOpd → Option (List AV)
  | [] => some []
  | x :: l =>
    match x.val tm, LOpd.vals tm l with
    | some v, some vs => some (v :: vs)
    | _, _ => none
def partVals (tm : LTm) : List (Nat × Nat × LOpd) → Option (List (Nat × Nat × List AV))
  | [] => some []
  | (off, sz, x) :: l =>
    match x.val tm, partVals tm l with
    | some v, some vs => some ((off, sz, v.cells) :: vs)
    | _, _ => none
/- an operand that may be left out -/
def LOpd.optval (tm : LTm) : Option LOpd → Option (Option AV)
  | none => some none
  | some x => (x.val tm).map some

def ACap.atLeast : ACap → Nat → Bool
  | .exact c, v => v ≤ c
  | .var _ k, v => v ≤ k
def asBound : AV → Option Nat
  | .int _ v => if 0 ≤ v then some v.toNat else none
  | _ => none
/- low, high, new capacity's base: what a slice expression comes to -/
def boundsAV (len : Nat) (cap : ACap) (lo hi mx : Option AV) : Option (Nat × Nat × ACap) :=
  let m : Option ACap := match mx with
    | none => some cap
    | some v => match asBound v with
      | some v => if cap.atLeast v then some (.exact v) else none
      | none => none
  match m with
  | none => none
  | some m =>
    let h : Option Nat := match hi, mx with
      | none, none => some len
      | none, some _ => none
      | some v, _ => match asBound v with
        | some v => if m.atLeast v then some v else none
        | none => none
    match h with
    | none => none
    | some h =>
      match lo with
      | none => some (0, h, m)
      | some v => match asBound v with
        | some l => if l ≤ h then some (l, h, m) else none
        | none => none
/- the slice behind it: object i, at off -/
def cutAV (i off es : Nat) : Option (Nat × Nat × ACap) → Option AV
  | some (l, h, .exact m) => some (.slice i (if m = l then off else off + l * es) (h - l) (.exact (m - l)))
  | some (l, h, .var x k) => if l < k then some (.slice i (off + l * es) (h - l) (.var x (k - l))) else if l = 0 then some (.slice i off h (.var x k)) else none
  | none => none

def LOp.pv (tm : LTm) (hp : AHeap) : LOp → Option AV
  | .mov x => x.val tm
  | .pick c a b =>
    match c.val tm with
    | some (.bool t) => if t then a.val tm else b.val tm
    | _ => none
  | .build zero parts =>
    match partVals tm parts with
    | some ps => (fillL zero ps).map .agg
    | none => none
  | .load1 a =>
    match a.val tm with
    | some (.ptr i off) => match hp.cells? i off 1 with
      | some [v] => some v
      | _ => none
    | some (.gptr g off) => match hp.gcells? g off 1 with
      | some [v] => some v
      | _ => none
    | _ => none
  | .loadN n a =>
    match a.val tm with
    | some (.ptr i off) => (hp.cells? i off n).map .agg
    | some (.gptr g off) => (hp.gcells? g off n).map .agg
    | _ => none
  | .nilchk x =>
    match x.val tm with
    | some (.ptr i off) => some (.ptr i off)
    | some (.func (.func f) a b) => some (.func (.func f) a b)
    | some (.iface t v) => some (.iface t v)
    | _ => none
  | .arith op x y =>
    match x.val tm, y.val tm with
    | some a, some b => arithAV op a b
    | _, _ => none
  | .eqT neg ks x y =>
    match x.val tm, y.val tm with
    | some (.agg l), some (.agg m) => (eqCells ks l m).map fun r => .bool (r != neg)
    | _, _ => none
  | .eqB neg x y =>
    match x.val tm, y.val tm with
    | some (.bool a), some (.bool b) => some (.bool ((a == b) != neg))
    | _, _ => none
  | .eqN neg c x y =>
    match x.val tm, y.val tm with
    | some a, some b => (eqNil c a b).map fun r => .bool (r != neg)
    | _, _ => none
  | .un op x =>
    match op, x.val tm with
    | .not, some (.bool b) => some (.bool !b)
    | .neg, some (.int k n) => some (.int k (k.wrap (0 - n)))
    | .xor, some (.int k n) => some (.int k (bits .xor k (if k.signed then -1 else k.max) n))
    | _, _ => none
  | .cvt k x =>
    match x.val tm with
    | some (.int _ n) => some (.int k (k.wrap n))
    | _ => none
  | .cvS x =>
    match x.val tm with
    | some (.str s) => some (.str s)
    | _ => none
  | .mkI t x => (x.val tm).map (.iface t)
  | .mkF f first caps =>
    match LOpd.vals tm first, LOpd.vals tm caps with
    | some a, some b => some (.func f a b)
    | _, _ => none
  | .slA n es x lo hi mx =>
    match x.val tm, LOpd.optval tm lo, LOpd.optval tm hi, LOpd.optval tm mx with
    | some (.ptr i off), some lo, some hi, some mx => cutAV i off es (boundsAV n (.exact n) lo hi mx)
    | _, _, _, _ => none
  | .slS es x lo hi mx =>
    match x.val tm, LOpd.optval tm lo, LOpd.optval tm hi, LOpd.optval tm mx with
    | some (.slice i off len cap), some lo, some hi, some mx => cutAV i off es (boundsAV len cap lo hi mx)
    | some .nilslice, some lo, some hi, some mx => match boundsAV 0 (.exact 0) lo hi mx with | some _ => some .nilslice | none => none
    | _, _, _, _ => none
  | .slStr x lo hi =>
    match x.val tm, LOpd.optval tm lo, LOpd.optval tm hi with
    | some (.str s), some lo, some hi =>
      match boundsAV s.length (.exact s.length) lo hi none with
      | some (l, h, _) => some (.str ((s.take h).drop l))
      | none => none
    | _, _, _ => none
  | .fadd off x =>
    match x.val tm with
    | some (.ptr i o) => some (.ptr i (o + off))
    | some (.gptr g o) => some (.gptr g (o + off))
    | _ => none
  | .fld off sz agg x =>
    match x.val tm with
    | some (.agg l) => if agg then some (.agg ((l.drop off).take sz)) else l[off]?
    | _ => none
  | .ixA n es x i =>
    match x.val tm, i.val tm with
    | some (.ptr j o), some (.int _ z) => if 0 ≤ z ∧ z < n then some (.ptr j (o + z.toNat * es)) else none
    | some (.gptr g o), some (.int _ z) => if 0 ≤ z ∧ z < n then some (.gptr g (o + z.toNat * es)) else none
    | _, _ => none
  | .ixS es x i =>
    match x.val tm, i.val tm with
    | some (.slice j o len _), some (.int _ z) => if 0 ≤ z ∧ z < len then some (.ptr j (o + z.toNat * es)) else none
    | _, _ => none
  | .ixV n es agg x i =>
    match x.val tm, i.val tm with
    | some (.agg l), some (.int _ z) =>
      if 0 ≤ z ∧ z < n then (if agg then some (.agg ((l.drop (z.toNat * es)).take es)) else l[z.toNat * es]?) else none
    | _, _ => none
  | .ixStr x i =>
    match x.val tm, i.val tm with
    | some (.str s), some (.int _ z) => if 0 ≤ z then (s[z.toNat]?).map fun b => .int .u8 b.toNat else none
    | _, _ => none
  | .lenS x =>
    match x.val tm with
    | some (.slice _ _ len _) => some (.int .i64 len)
    | some .nilslice => some (.int .i64 0)
    | _ => none
  | .lenStr x =>
    match x.val tm with
    | some (.str s) => some (.int .i64 s.length)
    | _ => none
  | .lenA n => some (.int .i64 n)
  | .ext k x =>
    match x.val tm with
    | some (.tuple l) => l[k]?
    | _ => none
  | _ => none

/- the cells that are appended -/
def srcCells (hp : AHeap) (es : Nat) : AV → Option (Nat × List AV)
  | .nilslice => some (0, [])
  | .slice i off len _ => (hp.cells? i off (len * es)).map fun l => (len, l)
  | .str s => if es = 1 then some (s.length, s.map fun b => .int .u8 b.toNat) else none
  | _ => none

def AHeap.del : AHeap → Nat → AHeap
  | [], _ => []
  | (j, o) :: h, i => if j = i then AHeap.del h i else (j, o) :: AHeap.del h i

/- the bound on what grows -/
def growBound : Nat := 140737488355328

def appAV (elem es bytes : Nat) (hp : AHeap) (n : Nat) (s : AV) (m : Nat) (news : List AV) : Option (AV × AHeap × Nat) :=
  match s with
  | .nilslice =>
    if m = 0 then some (.nilslice, hp, n)
    else if m * bytes ≤ growBound then some (.slice n 0 m (.var n m), (n, .own news elem (some (n, es, m)) (0, 0)) :: hp, n + 1) else none
  | .slice i off len (.exact c) =>
    if len + m ≤ c then
      if m = 0 then some (.slice i off len (.exact c), hp, n) else
      match hp.get? i with
      | some (.own cs e g (0, 0)) =>
        if off + len * es + news.length ≤ cs.length then
          some (.slice i off (len + m) (.exact c), hp.put i (.own (cs.take (off + len * es) ++ news ++ cs.drop (off + len * es + news.length)) e g (0, 0)), n)
        else none
      | _ => none
    else if (len + m) * bytes ≤ growBound then
      match hp.cells? i off (len * es) with
      | some olds => some (.slice n 0 (len + m) (.var n (len + m)), (n, .own (olds ++ news) elem (some (n, es, len + m)) (0, 0)) :: hp, n + 1)
      | none => none
    else none
  | .slice i off len (.var x k) =>
    match hp.get? i with
    | some (.own cs e (some (x', es', k')) (0, 0)) =>
      if off = 0 ∧ x' = x ∧ es' = es ∧ k' = k ∧ cs.length = len * es ∧ e = elem then
        if len + m ≤ k then
          some (.slice i 0 (len + m) (.var x k), hp.put i (.own (cs ++ news) e (some (x, es, k)) (0, 0)), n)
        else if (len + m) * bytes ≤ growBound then
          some (.slice n 0 (len + m) (.var n (len + m)), (n, .own (cs ++ news) e (some (n, es, len + m)) (0, 0)) :: hp.del i, n + 1)
        else none
      else none
    | _ => none
  | _ => none

def replicateL (k : Nat) (l : List AV) : List AV := (List.replicate k l).flatten

def LOp.eval (tm : LTm) (hp : AHeap) (n : Nat) (o : LOp) : Option (AV × AHeap × Nat) :=
  match o with
  | .new elem x =>
    match x.val tm with
    | some v => some (.ptr n 0, (n, .own v.cells elem none (0, 0)) :: hp, n + 1)
    | none => none
  | .buildS elem len zero parts =>
    match partVals tm parts with
    | some ps =>
      match fillL zero ps with
      | some cs => some (.slice n 0 len (.exact len), (n, .own cs elem none (0, 0)) :: hp, n + 1)
      | none => none
    | none => none
  | .store k a v =>
    match a.val tm, v.val tm with
    | some (.ptr i off), some v =>
      match hp.get? i with
      | some (.own cs e g (0, 0)) =>
        if v.cells.length = k ∧ off + k ≤ cs.length ∧ v.cells.all AV.one = true then
          some (.tuple [], hp.put i (.own (cs.take off ++ v.cells ++ cs.drop (off + k)) e g (0, 0)), n)
        else none
      | _ => none
    | _, _ => none
  | .mkS elem _es bytes zero l c =>
    match l.val tm, c.val tm with
    | some (.int .i64 l), some (.int .i64 c) =>
      if 0 ≤ l ∧ l ≤ c ∧ c * bytes ≤ 281474976710656 ∧ c ≤ 9223372036854775807 then
        some (.slice n 0 l.toNat (.exact c.toNat), (n, .own (replicateL c.toNat zero) elem none (0, 0)) :: hp, n + 1)
      else none
    | _, _ => none
  | .app elem es bytes s x =>
    match s.val tm, x.val tm with
    | some s, some x =>
      match srcCells hp es x with
      | some (m, news) => if news.all AV.one = true then appAV elem es bytes hp n s m news else none
      | none => none
    | _, _ => none
  | o => (o.pv tm hp).map fun v => (v, hp, n)

/- resolving -/
def aggT (P : Program) (t : TypeId) : Option Bool :=
  match P.underlying t with
  | some (.struct _) | some (.array _ _) => some true
  | some _ => some false
  | none => none

def opdL : List Operand → Option (List LOpd)
  | [] => some []
  | x :: l =>
    match opd x, opdL l with
    | some a, some b => some (a :: b)
    | _, _ => none
def opdO : Option Operand → Option (Option LOpd)
  | none => some none
  | some x => (opd x).map some

def zeroAV (P : Program) (t : TypeId) : Option AV :=
  match P.info? t with
  | some i => match i.zero with
    | some z => toAV 4 z
    | none => none
  | none => none

/- parts of a composite: where each lies, and how many cells it has -/
def partsOf (place : Nat → Option (Nat × Nat)) : List (Nat × Operand) → Option (List (Nat × Nat × LOpd))
  | [] => some []
  | (i, x) :: l =>
    match place i, opd x, partsOf place l with
    | some (off, sz), some lx, some r => some ((off, sz, lx) :: r)
    | _, _, _ => none
def fieldPlace' (P : Program) (fs : Array Field) (i : Nat) : Option (Nat × Nat) :=
  match fs[i]? with
  | some f => match P.info? f.type with
    | some inf => some (f.offset, inf.size)
    | none => none
  | none => none
/- every field's type is known -/
def fieldsKnown (P : Program) (fs : Array Field) : Bool := fs.toList.all fun f => (P.info? f.type).isSome

/- a type whose values are compared cell by cell: the kinds of its cells -/
def plainF (P : Program) (f : TypeId → Option (List Leaf)) : List Field → List Leaf → Option (List Leaf)
  | [], acc => some acc
  | fd :: fs, acc =>
    if fd.name != "_" && fd.offset == acc.length then
      match f fd.type with
      | some ks => if P.cellsOf fd.type == ks.length then plainF P f fs (acc ++ ks) else none
      | none => none
    else none
def plainT (P : Program) : Nat → TypeId → Option (List Leaf)
  | 0, _ => none
  | d + 1, t =>
    match P.underlying t with
    | some .bool => some [.b]
    | some (.int _) => some [.i]
    | some .string => some [.s]
    | some (.struct fs) => if P.stoodInHeld t then none else plainF P (plainT P d) fs.toList []
    | some (.array n e) =>
      match plainT P d e with
      | some ks => if P.cellsOf e == ks.length && (P.info? e).isSome then some (List.replicate n ks).flatten else none
      | none => none
    | _ => none

def resolveEq (P : Program) (neg : Bool) (t : TypeId) (x y : Operand) (lx ly : LOpd) : Option LOp :=
  match P.underlying t with
  | some (.int _) | some .string => some (.arith (if neg then .neq else .eql) lx ly)
  | some .bool => some (.eqB neg lx ly)
  | some (.pointer _) => some (.eqN neg .ptr lx ly)
  | some (.slice _) => some (.eqN neg .slice lx ly)
  | some (.map _ _) => some (.eqN neg .map lx ly)
  | some (.func _ _ _) => some (.eqN neg .func lx ly)
  | some (.interface _) => if Region.isConst x || Region.isConst y then some (.eqN neg .iface lx ly) else none
  | some (.struct _) | some (.array _ _) =>
    match plainT P 6 t with
    | some ks => if P.eqGuardType P.depth t then none else some (.eqT neg ks lx ly)
    | none => none
  | _ => none

def appendable (P : Program) (t : TypeId) : Bool :=
  match P.underlying t with
  | some (.slice _) | some .string => true
  | _ => false
def resolveBuiltin (P : Program) (b : Builtin) (args : List Operand) (ts : List TypeId) : Option LOp :=
  match b, args, ts with
  | .len, [x], [t] => do
    let lx ← opd x
    match P.underlying t with
    | some .string => pure (.lenStr lx)
    | some (.slice _) => pure (.lenS lx)
    | some (.array n _) => pure (.lenA n)
    | _ => none
  | .append, [s, x], [t, t'] => do
    let ls ← opd s
    let lx ← opd x
    match P.underlying t with
    | some (.slice e) => do
      let inf ← P.info? e
      let z ← zeroAV P e
      if appendable P t' = true ∧ z.cells.length = inf.size ∧ 0 < inf.size ∧ 0 < inf.bytes then pure (.app e inf.size inf.bytes ls lx) else none
    | _ => none
  | _, _, _ => none
def resolveCall (P : Program) (c : Call) : Option LOp :=
  match c.callee with
  | .builtin b => resolveBuiltin P b c.args.toList c.argTypes.toList
  | _ => none

def resolveOp (P : Program) (o : Oper) : Option LOp :=
  match o.op with
  | .move x | .assign x => (opd x).map .mov
  | .pick c a b => do pure (.pick (← opd c) (← opd a) (← opd b))
  | .alloc e => (zeroAV P e).map fun z => .new e (.c z)
  | .box e x => (opd x).map (.new e)
  | .build t parts => do
    let z ← zeroAV P t
    match P.underlying t with
    | some (.struct fs) => if fieldsKnown P fs then do pure (.build z.cells (← partsOf (fieldPlace' P fs) parts.toList)) else none
    | some (.array _ e) => do
      let inf ← P.info? e
      pure (.build z.cells (← partsOf (fun i => some (i * inf.size, inf.size)) parts.toList))
    | _ => none
  | .buildSlice t len parts =>
    match P.underlying t with
    | some (.slice e) => do
      let inf ← P.info? e
      let z ← zeroAV P e
      if z.cells.length = inf.size ∧ len * inf.size ≤ 2 ^ 24 then
        pure (.buildS e len (replicateL len z.cells) (← partsOf (fun i => some (i * inf.size, inf.size)) parts.toList))
      else none
    | _ => none
  | .load t a => do
    let la ← opd a
    match aggT P t, P.info? t with
    | some true, some inf => pure (.loadN inf.size la)
    | some false, _ => pure (.load1 la)
    | _, _ => none
  | .store t a v => do pure (.store (← P.info? t).size (← opd a) (← opd v))
  | .nilCheck x => (opd x).map .nilchk
  | .binOp op t x y _ => do
    let lx ← opd x
    let ly ← opd y
    match op with
    | .eql => resolveEq P false t x y lx ly
    | .neq => resolveEq P true t x y lx ly
    | _ => pure (.arith op lx ly)
  | .unOp op _ x => (opd x).map (.un op)
  | .convert s d x => do
    let lx ← opd x
    match P.underlying s, P.underlying d with
    | some (.int _), some (.int k) => pure (.cvt k lx)
    | some .string, some .string => pure (.cvS lx)
    | _, _ => none
  | .makeInterface t x => do
    let lx ← opd x
    match P.underlying t with
    | some (.interface _) => none
    | some _ => pure (.mkI t lx)
    | none => none
  | .makeFunc f first caps => do pure (.mkF f (← opdL first.toList) (← opdL caps.toList))
  | .makeSlice t l c =>
    match P.underlying t with
    | some (.slice e) => do
      let inf ← P.info? e
      let z ← zeroAV P e
      if z.cells.length = inf.size then pure (.mkS e inf.size inf.bytes z.cells (← opd l) (← opd c)) else none
    | _ => none
  | .slice t x lo hi mx => do
    let lx ← opd x
    let llo ← opdO lo
    let lhi ← opdO hi
    let lmx ← opdO mx
    match P.underlying t with
    | some (.array n e) => do pure (.slA n (← P.info? e).size lx llo lhi lmx)
    | some (.slice e) => do pure (.slS (← P.info? e).size lx llo lhi lmx)
    | some .string => if lmx.isNone then pure (.slStr lx llo lhi) else none
    | _ => none
  | .fieldAddr t x f => do
    let lx ← opd x
    match P.underlying t with
    | some (.struct fs) => do
      let fd ← fs[f]?
      let inf ← P.info? fd.type
      if inf.size = 0 then none else pure (.fadd fd.offset lx)
    | _ => none
  | .field t x f => do
    let lx ← opd x
    match P.underlying t with
    | some (.struct fs) => do
      let fd ← fs[f]?
      let inf ← P.info? fd.type
      let ag ← aggT P fd.type
      pure (.fld fd.offset inf.size ag lx)
    | _ => none
  | .indexAddr t x i => do
    let lx ← opd x
    let li ← opd i
    match P.underlying t with
    | some (.array n e) => do pure (.ixA n (← P.info? e).size lx li)
    | some (.slice e) => do pure (.ixS (← P.info? e).size lx li)
    | _ => none
  | .index t x i => do
    let lx ← opd x
    let li ← opd i
    match P.underlying t with
    | some (.array n e) => do pure (.ixV n (← P.info? e).size (← aggT P e) lx li)
    | some .string => pure (.ixStr lx li)
    | _ => none
  | .extract x k => (opd x).map (.ext k)
  | .call c => resolveCall P c
  | _ => none
end Go.Ax
