/- The deterministic evaluator: operations, regions (one canonical order, checked to stand for all), code, calls. -/
import Derived.Test.YtphkigpngblniaaGreatAbA
namespace Go.Ab

/-- Kinds of operations: no memory; reads; makes an object; all else. -/
inductive Kd where
  | P | L | A | E

def wrapA (k : IntKind) (n : Int) : Int := bif inK k n then n else k.wrap n

def bitsA (f : (n : Nat) → BitVec n → BitVec n → BitVec n) (k : IntKind) (x y : Int) : AV :=
  .int k (k.wrap (f k.bits (BitVec.ofInt k.bits x) (BitVec.ofInt k.bits y)).toNat)

def intBin (op : BinOp) (k : IntKind) (x y : Int) : Option AV :=
  match op with
  | .add => some (.int k (wrapA k (x + y)))
  | .sub => some (.int k (wrapA k (x - y)))
  | .mul => some (.int k (wrapA k (x * y)))
  | .quo => bif intEq y 0 then none else some (.int k (wrapA k (x.tdiv y)))
  | .rem => bif intEq y 0 then none else some (.int k (x.tmod y))
  | .and => some (bitsA (fun _ a b => a &&& b) k x y)
  | .or => some (bitsA (fun _ a b => a ||| b) k x y)
  | .xor => some (bitsA (fun _ a b => a ^^^ b) k x y)
  | .andNot => some (bitsA (fun _ a b => a &&& ~~~b) k x y)
  | .eql => some (.bool (intEq x y))
  | .neq => some (.bool (!intEq x y))
  | .lss => some (.bool (intLt x y))
  | .leq => some (.bool (intLe x y))
  | .gtr => some (.bool (intLt y x))
  | .geq => some (.bool (intLe y x))
  | _ => none

section
variable (P : Program)

def eqable : AV → Bool
  | .bool _ | .ptr _ | .slice _ _ _ _ | .map _ | .func _ _ | .nilFunc => true
  | _ => false

def evBin0 (op : BinOp) (t : TypeId) (x y : AV) : Option AV :=
  match x, y with
  | .int k a, .int k' c =>
    match op with
    | .shl => bif intLt c 0 then none else some (.int k (wrapA k (a * 2 ^ (min c.toNat k.bits))))
    | .shr => bif intLt c 0 then none else some (.int k (a.fdiv (2 ^ (min c.toNat k.bits))))
    | _ => bif kindEq k k' then intBin op k a c else none
  | .str a, .str c =>
    match op with
    | .eql => some (.bool (a.toList == c.toList))
    | .neq => some (.bool (!(a.toList == c.toList)))
    | .add => bif Nat.ble (a.size + c.size) limit then some (.str (a ++ c)) else none
    | _ => none
  | .agg as, .agg cs =>
    bif P.eqGuardType P.depth t then none else
    match op with
    | .eql => match eqA P Op.maxDepth t (.agg as) (.agg cs) with
      | some r => some (.bool r)
      | none => none
    | .neq => match eqA P Op.maxDepth t (.agg as) (.agg cs) with
      | some r => some (.bool !r)
      | none => none
    | _ => none
  | x, y =>
    bif eqable x then
      match op with
      | .eql => match eqA P Op.maxDepth t x y with
        | some r => some (.bool r)
        | none => none
      | .neq => match eqA P Op.maxDepth t x y with
        | some r => some (.bool !r)
        | none => none
      | _ => none
    else none

def evBin (op : BinOp) (t : TypeId) (x y : AV) : Option AV := bif x.isSym || y.isSym then symBin op x y else evBin0 P op t x y

def evUn (op : UnOp) (x : AV) : Option AV :=
  match op, x with
  | .neg, .int k n => some (.int k (wrapA k (0 - n)))
  | .xor, .int k n => some (bitsA (fun _ a b => a ^^^ b) k (if k.signed then -1 else k.max) n)
  | .not, .bool b => some (.bool !b)
  | _, _ => none

/-- A bound of a slice expression: d where there is none. -/
def bound (v : Option AV) (hi : Nat) (d : Nat) : Option Nat :=
  match v with
  | none => some d
  | some (.int _ (.ofNat n)) => bif Nat.ble n hi then some n else none
  | some _ => none

def bounds (len cap : Nat) (lo hi mx : Option AV) : Option (Nat × Nat × Nat) :=
  match bound mx cap cap, (match mx, hi with | some _, none => false | _, _ => true) with
  | some m, true =>
    match bound hi m len with
    | some h =>
      match bound lo h 0 with
      | some l => some (l, h, m)
      | none => none
    | none => none
  | _, _ => none

def sliceA (size : Nat) (a : Option Loc) (len cap : Nat) (ex : Bool) (lo hi mx : Option AV) : Option AV :=
  match bounds len cap lo hi mx with
  | some (l, h, m) =>
    match a with
    | none => some (.slice none 0 0 true)
    | some q =>
      let ex' := ex || (mx.isSome && Nat.blt 0 cap)
      bif Nat.beq m l then (bif ex' then some (.slice (some q) (h - l) 0 true) else some (.slice (some q) 0 0 false))
      else bif ex' || Nat.beq (q.i + cap * size) q.v then some (.slice (some { o := q.o, v := q.v, i := q.i + l * size }) (h - l) (m - l) ex') else none
  | none => none

def sliceS (b : ByteArray) (lo hi mx : Option AV) : Option AV :=
  match mx with
  | some _ => none
  | none => match bound hi b.size b.size with
    | some h => match bound lo h 0 with
      | some l => some (.str (b.extract l h))
      | none => none
    | none => none

def evX (t : Temps) : Operand → Option AV
  | .tmp i => match t.get i with
    | some v => some v
    | none => some undefA
  | .const v => absV v
  | .global _ => none
  | .func f => some (.func f [])

def evXs (t : Temps) : List Operand → Option (List AV)
  | [] => some []
  | x :: xs => match evX t x with
    | some v => match evXs t xs with
      | some vs => some (v :: vs)
      | none => none
    | none => none

def evParts (t : Temps) : List (Nat × Operand) → Option (List (Nat × AV))
  | [] => some []
  | (i, x) :: ps => match evX t x with
    | some v => match evParts t ps with
      | some vs => some ((i, v) :: vs)
      | none => none
    | none => none

def optX (t : Temps) : Option Operand → Option (Option AV)
  | none => some none
  | some x => match evX t x with
    | some v => some (some v)
    | none => none

def capLocs : List AV → Option (List Loc)
  | [] => some []
  | .ptr (some l) :: vs => match capLocs vs with
    | some ls => some (l :: ls)
    | none => none
  | _ :: _ => none

def minmax (mx : Bool) : AV → List AV → Option AV
  | x, [] => some x
  | .int k x, .int _ y :: vs => minmax mx (.int k (bif mx then (bif intLt x y then y else x) else (bif intLt y x then y else x))) vs
  | _, _ => none

def strOf : Option TypeDesc → Bool
  | some .string => true
  | _ => false

def sliceOf : Option TypeDesc → Bool
  | some (.slice _) => true
  | _ => false

def placesA (fs : Array Field) (i : Nat) : Option (Nat × Nat) :=
  match fs[i]? with
  | some f => match sizeT P f.type with
    | some n => some (f.offset, n)
    | none => none
  | none => none

def sizesOk : List Field → Bool
  | [] => true
  | f :: fs => match sizeT P f.type with
    | some _ => sizesOk fs
    | none => false

/-- Operations without memory. -/
def evP (t : Temps) (o : Op) : Option AV :=
  match o with
  | .move x | .assign x => evX t x
  | .pick c x y => match evX t c, evX t x, evX t y with
    | some (.bool c), some x, some y => some (bif c then x else y)
    | _, _, _ => none
  | .build ty ps => match evParts t ps.toList, zeroT P ty with
    | some vs, some z => match P.underlying ty with
      | some (.struct fs) => bif sizesOk P fs.toList then match fillA (placesA P fs) z.cells vs with
          | some cs => some (.agg cs)
          | none => none
        else none
      | some (.array _ e) => match sizeT P e with
        | some n => match fillA (fun i => some (i * n, n)) z.cells vs with
          | some cs => some (.agg cs)
          | none => none
        | none => none
      | _ => none
    | _, _ => none
  | .nilCheck x => match evX t x with
    | some (.ptr (some l)) => some (.ptr (some l))
    | some (.func f ls) => some (.func f ls)
    | _ => none
  | .binOp op ty x y _ => match evX t x, evX t y with
    | some a, some c => evBin P op ty a c
    | _, _ => none
  | .unOp op _ x => match evX t x with
    | some a => evUn op a
    | none => none
  | .convert src dst x => match P.underlying src, P.underlying dst, evX t x with
    | some _, some (.int k), some (.int _ n) => some (.int k (wrapA k n))
    | some _, some (.int k), some (.sym _ e lo hi o) => symConv k e lo hi o
    | some _, some .string, some (.str x) => some (.str x)
    | _, _, _ => none
  | .makeFunc fn first captured => match fn with
    | .func f => bif Nat.beq first.size 0 then
        match evXs t captured.toList with
        | some vs => match capLocs vs with
          | some ls => some (.func f ls)
          | none => none
        | none => none
      else none
    | _ => none
  | .slice ty x lo hi mx => match evX t x, optX t lo, optX t hi, optX t mx with
    | some v, some lo, some hi, some mx =>
      match P.underlying ty, v with
      | some (.slice e), .slice a len cap ex => match sizeT P e with
        | some n => sliceA n a len cap ex lo hi mx
        | none => none
      | some .string, .str b => sliceS b lo hi mx
      | _, _ => none
    | _, _, _, _ => none
  | .fieldAddr ty x f => match P.underlying ty, evX t x with
    | some (.struct fs), some (.ptr (some l)) => match fs[f]? with
      | some fd => match sizeT P fd.type with
        | some (_ + 1) => some (.ptr (some { o := l.o, v := l.v, i := l.i + fd.offset }))
        | _ => none
      | none => none
    | _, _ => none
  | .field ty x f => match P.underlying ty, evX t x with
    | some (.struct fs), some (.agg cs) => match fs[f]? with
      | some fd => partA P fd.type cs fd.offset
      | none => none
    | _, _ => none
  | .indexAddr ty x ix => match P.underlying ty, evX t x, evX t ix with
    | some (.slice e), some (.slice (some l) len _ _), some (.int _ (.ofNat i)) =>
      match sizeT P e with
      | some (n + 1) => bif Nat.blt i len then some (.ptr (some { o := l.o, v := l.v, i := l.i + i * (n + 1) })) else none
      | _ => none
    | some (.array len e), some (.ptr (some l)), some (.int _ (.ofNat i)) =>
      match sizeT P e with
      | some (n + 1) => bif Nat.blt i len then some (.ptr (some { o := l.o, v := l.v, i := l.i + i * (n + 1) })) else none
      | _ => none
    | _, _, _ => none
  | .index ty x ix => match P.underlying ty, evX t x, evX t ix with
    | some (.array len e), some (.agg cs), some (.int _ (.ofNat i)) =>
      match sizeT P e with
      | some n => bif Nat.blt i len then partA P e cs (i * n) else none
      | none => none
    | some .string, some (.str b), some (.int _ (.ofNat i)) => match b[i]? with
      | some x => some (.int .u8 x.toNat)
      | none => none
    | _, _, _ => none
  | .extract x i => match evX t x with
    | some (.tup vs) => vs[i]?
    | _ => none
  | .call c => match c.callee with
    | .builtin f => match f, evXs t c.args.toList with
      | .cap, some [.slice _ _ n true] => bif sliceOf (P.underlying (c.argTypes.getD 0 0)) && Nat.blt 0 c.argTypes.size then some (.int .i64 n) else none
      | .max, some (x :: xs) => minmax true x xs
      | .min, some (x :: xs) => minmax false x xs
      | _, _ => none
    | _ => none
  | _ => none

/-- The value of a key; keys are ints. -/
def findA (n : Int) : List (AV × AV) → Option (Option AV)
  | [] => some none
  | (.int .i64 m, v) :: es => bif intEq n m then some (some v) else findA n es
  | _ :: _ => none

def putA (n : Int) (v : AV) : List (AV × AV) → List (AV × AV)
  | [] => [(.int .i64 n, v)]
  | (.int k m, u) :: es => bif intEq n m then (.int k n, v) :: es else (.int k m, u) :: putA n v es
  | e :: es => e :: es

def delA (n : Int) : List (AV × AV) → List (AV × AV)
  | [] => []
  | (.int k m, u) :: es => bif intEq n m then es else (.int k m, u) :: delA n es
  | e :: es => e :: es

def entriesA (s : St) : Option Nat → Option (List (AV × AV))
  | none => some []
  | some m => match s.h.get m with
    | some (.map es) => some es
    | _ => none

def bytesA : List AV → Option (List UInt8)
  | [] => some []
  | .int .u8 n :: cs => match bytesA cs with
    | some bs => some (UInt8.ofNat n.toNat :: bs)
    | none => none
  | _ :: _ => none

/-- Operations that look into memory: the object that was looked into, and the value. -/
def evL (t : Temps) (s : St) (o : Op) : Option (Option Nat × AV) :=
  match o with
  | .load ty a => match evX t a with
    | some (.ptr (some l)) => match isAggT P ty with
      | some true => match sizeT P ty with
        | some n => match readCells s l n with
          | some cs => some (some l.o, .agg cs)
          | none => none
        | none => none
      | some false => match readCells s l 1 with
        | some [c] => some (some l.o, c)
        | _ => none
      | none => none
    | _ => none
  | .lookup ty x k ok => match P.underlying ty, evX t x, evX t k with
    | some (.map kt e), some (.map m), some (.int .i64 n) =>
      match P.underlying kt, entriesA s m, zeroT P e with
      | some (.int _), some es, some z => match findA n es with
        | some (some v) => some (m, bif ok then .tup [v, .bool true] else v)
        | some none => some (m, bif ok then .tup [z, .bool false] else z)
        | none => none
      | _, _, _ => none
    | _, _, _ => none
  | .convert src dst x => match P.underlying src, P.underlying dst, evX t x with
    | some (.slice e), some .string, some (.slice a len _ _) => match P.underlying e with
      | some (.int .u8) => match a with
        | none => some (none, .str .empty)
        | some l => match readCells s l len with
          | some cs => match bytesA cs with
            | some bs => some (some l.o, .str ⟨bs.toArray⟩)
            | none => none
          | none => none
      | _ => none
    | _, _, _ => none
  | .call c => match c.callee with
    | .builtin .len => bif Nat.blt 0 c.argTypes.size then
        match P.underlying (c.argTypes.getD 0 0), evXs t c.args.toList with
        | some (.slice _), some [.slice _ n _ _] => some (none, .int .i64 n)
        | some .string, some [.str x] => some (none, .int .i64 x.size)
        | some (.map _ _), some [.map m] => match entriesA s m with
          | some es => some (m, .int .i64 es.length)
          | none => none
        | _, _ => none
      else none
    | _ => none
  | _ => none

/-- Operations that make an object: it, and the value by the object's number. -/
def evAl (t : Temps) (o : Op) : Option (AObj × (Nat → AV)) :=
  match o with
  | .alloc e => match zeroT P e with
    | some z => some (.arr z.cells z.cells.length false, fun q => .ptr (some ⟨q, z.cells.length, 0⟩))
    | none => none
  | .box _ x => match evX t x with
    | some v => bif v.cells.all AV.one then some (.arr v.cells v.cells.length false, fun q => .ptr (some ⟨q, v.cells.length, 0⟩)) else none
    | none => none
  | .buildSlice ty len ps => match evParts t ps.toList, P.underlying ty with
    | some vs, some (.slice e) => match sizeT P e, zeroT P e with
      | some n, some z => bif Nat.ble (len * n) 65536 && Nat.beq z.cells.length n then
          match fillA (fun i => some (i * n, n)) (repeatA z.cells len) vs with
          | some cs => some (.arr cs cs.length false, fun q => .slice (some ⟨q, cs.length, 0⟩) len len true)
          | none => none
        else none
      | _, _ => none
    | _, _ => none
  | .makeSlice ty l c => match P.underlying ty, evX t l, evX t c with
    | some (.slice e), some (.int _ (.ofNat l)), some (.int _ (.ofNat c)) =>
      match sizeT P e, zeroT P e, bytesT P e with
      | some n, some z, some by' => bif Nat.ble l c && Nat.ble c limit && Nat.ble by' 4096 && Nat.beq z.cells.length n then
          some (.arr (repeatA z.cells c) (c * n) false, fun q => .slice (some ⟨q, c * n, 0⟩) l c true)
        else none
      | _, _, _ => none
    | _, _, _ => none
  | .makeMap ty r => match r with
    | none => some (.map [], fun q => .map (some q))
    | some x => match P.underlying ty, evX t x with
      | some (.map _ _), some (.int _ _) => some (.map [], fun q => .map (some q))
      | _, _ => none
  | _ => none

def kd (o : Op) : Kd :=
  match o with
  | .load .. | .lookup .. => .L
  | .convert src _ _ => bif sliceOf (P.underlying src) then .L else .P
  | .alloc _ | .box .. | .buildSlice .. | .makeSlice .. | .makeMap .. => .A
  | .move _ | .assign _ | .pick .. | .build .. | .nilCheck _ | .binOp .. | .unOp .. | .fieldAddr .. | .field .. | .indexAddr .. | .index .. | .slice .. | .extract ..
  | .makeFunc .. => .P
  | .call c => match c.callee with
    | .builtin f => match f with
      | .len => .L
      | .cap | .max | .min => .P
      | _ => .E
    | _ => .E
  | _ => .E

/-- What is appended or copied: how many elements, and their cells. -/
def srcCells (s : St) (size : Nat) : AV → Option (Nat × List AV)
  | .slice none _ _ _ => some (0, [])
  | .slice (some l) len _ _ => bif Nat.beq len 0 then some (0, []) else match readCells s l (len * size) with
    | some cs => some (len, cs)
    | none => none
  | .str b => bif Nat.beq size 1 then some (b.size, b.data.toList.map fun x => .int .u8 x.toNat) else none
  | _ => none

def appendA (b : Bar) (s : St) (size : Nat) (base : Option Loc) (len cap : Nat) (ex : Bool) (n : Nat) (new : List AV) : Option (AV × St) :=
  bif Nat.ble (len + n) cap then
    match base with
    | some l => match writeCells b s { o := l.o, v := l.v, i := l.i + len * size } new with
      | some s => some (.slice base (len + n) cap ex, s)
      | none => none
    | none => bif Nat.beq n 0 then some (.slice base len cap ex, s) else none
  else bif Nat.ble (len + n) limit && new.all AV.one then
    match base with
    | some l => bif ex then
        (match readCells s l (len * size) with
        | some old => some (.slice (some (newArr s (old ++ new)).1) (len + n) (len + n) false, (newArr s (old ++ new)).2)
        | none => none)
      else
        match s.h.get l.o with
        | some (.arr cs lo false) =>
          bif Nat.beq len cap && Nat.blt 0 len && Nat.beq l.v cs.length && Nat.beq l.i 0 && Nat.beq (len * size) l.v && Nat.ble lo l.v && b.ok l.o then
            some (.slice (some { o := l.o, v := l.v + new.length, i := 0 }) (len + n) (len + n) false, s.put l.o (.arr (cs ++ new) lo false))
          else none
        | _ => none
    | none => some (.slice (some (newArr s new).1) (len + n) (len + n) false, (newArr s new).2)
  else none

/-- Is it a function with a body? -/
def callable (f : FuncId) : Bool :=
  match P.funcs[f]? with
  | some fn => fn.body.isSome && !(fn.name == "runtime.NumGoroutine")
  | none => false

/-- All other operations; 'call': how a function is called. -/
def evE (call : Bar → FuncId → List AV → St → Option (AV × St)) (b : Bar) (t : Temps) (s : St) (o : Op) : Option (AV × St) :=
  match o with
  | .store ty a x => match evX t a, evX t x with
    | some (.ptr (some l)), some v => match sizeT P ty with
      | some n => bif Nat.beq v.cells.length n && v.cells.all AV.one then
          match writeCells b s l v.cells with
          | some s => some (undefA, s)
          | none => none
        else none
      | none => none
    | _, _ => none
  | .mapUpdate ty m k v => match P.underlying ty, evX t m, evX t k, evX t v with
    | some (.map kt _), some (.map (some m)), some (.int .i64 n), some v => match P.underlying kt, s.h.get m with
      | some (.int _), some (.map es) => match findA n es with
        | some _ => bif b.ok m && v.cells.all AV.one then some (undefA, s.put m (.map (putA n v es))) else none
        | none => none
      | _, _ => none
    | _, _, _, _ => none
  | .call c => match c.callee with
    | .value f => match evX t f, evXs t c.args.toList with
      | some (.func f cap), some vs => bif callable P f then call b f (vs ++ cap.map fun l => .ptr (some l)) s else none
      | _, _ => none
    | .builtin f => match f, evXs t c.args.toList with
      | .append, some [.slice base len cap ex, x] => bif Nat.beq c.argTypes.size 2 then
          match P.underlying (c.argTypes.getD 0 0), P.underlying (c.argTypes.getD 1 0) with
          | some (.slice _), some (.int _) => none
          | some (.slice e), some _ => match sizeT P e, bytesT P e, zeroT P e with
            | some size, some by', some z => match srcCells s size x with
              | some (n, new) => bif Nat.ble by' 4096 && Nat.blt 0 by' && Nat.beq z.cells.length size && Nat.blt 0 size then appendA b s size base len cap ex n new else none
              | none => none
            | _, _, _ => none
          | _, _ => none
        else none
      | .copy, some [.slice base len _ _, x] => bif Nat.blt 0 c.argTypes.size then
          match P.underlying (c.argTypes.getD 0 0) with
          | some (.slice e) => match sizeT P e with
            | some size => match srcCells s size x with
              | some (n, cs) => match base with
                | some l => match writeCells b s l (cs.take (Nat.min n len * size)) with
                  | some s => some (.int .i64 (Nat.min n len), s)
                  | none => none
                | none => some (.int .i64 (Nat.min n len), s)
              | none => none
            | none => none
          | _ => none
        else none
      | .clear, some [.slice base n _ _] => bif Nat.blt 0 c.argTypes.size then
          match P.underlying (c.argTypes.getD 0 0) with
          | some (.slice e) => match base with
            | none => some (undefA, s)
            | some l => match zeroT P e with
              | some z => match writeCells b s l (repeatA z.cells n) with
                | some s => some (undefA, s)
                | none => none
              | none => none
          | _ => none
        else none
      | .delete, some [.map m, .int .i64 n] => bif Nat.blt 0 c.argTypes.size then
          match P.underlying (c.argTypes.getD 0 0) with
          | some (.map kt _) => match P.underlying kt, m with
            | some (.int _), none => some (undefA, s)
            | some (.int _), some m => match s.h.get m with
              | some (.map es) => match findA n es with
                | some _ => bif b.ok m then some (undefA, s.put m (.map (delA n es))) else none
                | none => none
              | _ => none
            | _, _ => none
          | _ => none
        else none
      | _, _ => none
    | .invoke .. => none
  | _ => none

/-- One operation, in the text's order. -/
def evOp (call : Bar → FuncId → List AV → St → Option (AV × St)) (b : Bar) (t : Temps) (s : St) (o : Op) : Option (AV × St) :=
  match kd P o with
  | .P => match evP P t o with
    | some v => some (v, s)
    | none => none
  | .L => match evL P t s o with
    | some (_, v) => some (v, s)
    | none => none
  | .A => match evAl P t o with
    | some (ob, mk) => some (mk s.n, { h := s.h.set s.n ob, n := s.n + 1 })
    | none => none
  | .E => evE P call b t s o

def guardA (ops : Array Oper) (t : Temps) (j : Nat) : Option Bool :=
  match (match ops[j]? with | some o => o.dst | none => none) with
  | some d => match t.get d with
    | some (.bool b) => some b
    | _ => none
  | none => none

def wantedA (ops : Array Oper) (t : Temps) (o : Oper) : Bool :=
  match o.guard with
  | none => true
  | some (j, want) => match guardA ops t j with
    | some b => boolEq b want
    | none => false

def putT (t : Temps) (d : Option Tmp) (v : AV) : Temps :=
  match d with
  | some d => t.set d v
  | none => t

def evOps (call : Bar → FuncId → List AV → St → Option (AV × St)) (b : Bar) (ops : Array Oper) : List Oper → Temps → St → Option (Temps × St)
  | [], t, s => some (t, s)
  | o :: os, t, s =>
    bif wantedA ops t o then
      match evOp P call b t s o.op with
      | some (v, s) => evOps call b ops os (putT t o.dst v) s
      | none => none
    else evOps call b ops os (putT t o.dst undefA) s

/-- May the second one of two that are not ordered come first? And does one look for what the other one touched? -/
def pairOk : Kd → Kd → Bool
  | .A, .E | .E, .L | .E, .E => false
  | _, _ => true

def pairSel : Kd → Kd → Bool
  | .A, .L | .L, .E => true
  | _, _ => false

/-- The canonical order, as a greedy search finds it (nothing is proved of it: it is checked). -/
def orderGo (n : Nat) (bf : Nat → Nat) (kt : Nat → Kd) : Nat → Nat → List Nat → List Nat
  | 0, _, _ => []
  | f + 1, done, left =>
    let ready := fun i => Nat.beq (Nat.land (bf i) done) (bf i)
    match left.find? (fun i => ready i && (match kt i with | .P | .L => true | _ => false)) with
    | some i => i :: orderGo n bf kt f (done + 2 ^ i) (left.filter fun j => !Nat.beq j i)
    | none => match left.find? (fun i => ready i && (match kt i with | .E => true | _ => false)) with
      | some i => i :: orderGo n bf kt f (done + 2 ^ i) (left.filter fun j => !Nat.beq j i)
      | none =>
        let es := left.filter fun j => match kt j with | .E => true | _ => false
        match left.find? (fun i => ready i && es.all fun j => (bf j).testBit i) with
        | some i => i :: orderGo n bf kt f (done + 2 ^ i) (left.filter fun j => !Nat.beq j i)
        | none => []

/-- Do the operations that it waits for stand among those that are done? -/
def waitsIn (done : List Nat) (o : Oper) : Bool := o.after.toList.all fun e => !Region.binds .any e || done.any (Nat.beq e.on)

def planGo (ops : Array Oper) (bf : Nat → Nat) (kt : Nat → Kd) : List Nat → List Nat → Option (List (Nat × List Nat))
  | _, [] => some []
  | done, j :: rest =>
    match ops[j]? with
    | none => none
    | some oj =>
      let un := done.filter fun i => !(bf j).testBit i
      bif waitsIn done oj && !(done.any (Nat.beq j)) && un.all (fun i => pairOk (kt i) (kt j) && (match ops[i]? with | some oi => oi.apart ops oj | none => false)) then
        match planGo ops bf kt (j :: done) rest with
        | some pl => some ((j, un.filter fun i => pairSel (kt i) (kt j)) :: pl)
        | none => none
      else none

def kindAt (ops : Array Oper) (i : Nat) : Kd :=
  match ops[i]? with
  | some o => kd P o.op
  | none => .P

def planOf (ops : Array Oper) : Option (List (Nat × List Nat)) :=
  let bf := Region.before ops
  let bf := fun i => bf.getD i 0
  let order := orderGo ops.size bf (kindAt P ops) ops.size 0 (List.range ops.size)
  bif Nat.beq order.length ops.size then planGo ops bf (kindAt P ops) [] order else none

def lookN (ld : List (Nat × Nat)) (i : Nat) : List Nat :=
  match ld with
  | [] => []
  | (j, q) :: ld => bif Nat.beq j i then q :: lookN ld i else lookN ld i

def evDraw (call : Bar → FuncId → List AV → St → Option (AV × St)) (b : Bar) (ops : Array Oper) (base : Nat) :
    List (Nat × List Nat) → List (Nat × Nat) → Temps → St → Option (Temps × St)
  | [], _, t, s => some (t, s)
  | (i, us) :: rest, ld, t, s =>
    match ops[i]? with
    | none => none
    | some o =>
      bif wantedA ops t o then
        match kd P o.op with
        | .P => match evP P t o.op with
          | some v => evDraw call b ops base rest ld (putT t o.dst v) s
          | none => none
        | .L => match evL P t s o.op with
          | some (some q, v) => bif Nat.ble s.n q || us.any (fun k => Nat.beq (base + k) q) then none else evDraw call b ops base rest ((i, q) :: ld) (putT t o.dst v) s
          | some (none, v) => evDraw call b ops base rest ld (putT t o.dst v) s
          | none => none
        | .A => match evAl P t o.op with
          | some (ob, mk) => match s.h.get (base + i) with
            | none => evDraw call b ops base rest ld (putT t o.dst (mk (base + i))) (s.put (base + i) ob)
            | some _ => none
          | none => none
        | .E => match evE P call { lim := b.lim, no := us.flatMap (lookN ld) ++ b.no } t s o.op with
          | some (v, s) => evDraw call b ops base rest ld (putT t o.dst v) s
          | none => none
      else evDraw call b ops base rest ld (putT t o.dst undefA) s

inductive Out where
  | normal | ret | exit (id : Nat)

def evLoop (body : Temps → St → Option (Out × Temps × St)) : Nat → Temps → St → Option (Out × Temps × St)
  | 0, _, _ => none
  | f + 1, t, s => match body t s with
    | some (.normal, t, s) => evLoop body f t s
    | r => r

def evCode (call : Bar → FuncId → List AV → St → Option (AV × St)) (b : Bar) (fuel : Nat) : Code → Temps → St → Option (Out × Temps × St)
  | .skip, t, s => some (.normal, t, s)
  | .label _, t, s => some (.normal, t, s)
  | .region _ ops draw, t, s =>
    bif draw then
      match planOf P ops with
      | some pl => match evDraw P call b ops s.n pl [] t { h := s.h, n := s.n + ops.size } with
        | some (t, s) => some (.normal, t, s)
        | none => none
      | none => none
    else
      match evOps P call b ops ops.toList t s with
      | some (t, s) => some (.normal, t, s)
      | none => none
  | .seq x y, t, s => match evCode call b fuel x t s with
    | some (.normal, t, s) => evCode call b fuel y t s
    | r => r
  | .cond c x y, t, s => match evX t c with
    | some (.bool true) => evCode call b fuel x t s
    | some (.bool false) => evCode call b fuel y t s
    | _ => none
  | .block id x, t, s => match evCode call b fuel x t s with
    | some (.exit i, t, s) => bif Nat.beq i id then some (.normal, t, s) else some (.exit i, t, s)
    | r => r
  | .loop x, t, s => evLoop (evCode call b fuel x) fuel t s
  | .exit id, t, s => some (.exit id, t, s)
  | .ret, t, s => some (.ret, t, s)
  | _, _, _ => none

/-- Does all code write into temporaries that there are? -/
def dstsOk (n : Nat) : Code → Bool
  | .region _ ops _ => ops.toList.all fun o => match o.dst with | some d => Nat.blt d n | none => true
  | .seq x y => dstsOk n x && dstsOk n y
  | .cond _ x y => dstsOk n x && dstsOk n y
  | .block _ x => dstsOk n x
  | .loop x => dstsOk n x
  | .scope x => dstsOk n x
  | _ => true

def enterT : List AV → Nat → Temps → Temps
  | [], _, t => t
  | v :: vs, i, t => enterT vs (i + 1) (t.set i v)

def resultA (t : Temps) (s : St) : ResultVar → Option AV
  | .tmp i => match t.get i with
    | some v => some v
    | none => some undefA
  | .cell a ty => match t.get a with
    | some (.ptr (some l)) => match isAggT P ty with
      | some true => match sizeT P ty with
        | some n => match readCells s l n with
          | some cs => some (.agg cs)
          | none => none
        | none => none
      | some false => match readCells s l 1 with
        | some [c] => some c
        | _ => none
      | none => none
    | _ => none

def resultsA (t : Temps) (s : St) : List ResultVar → Option (List AV)
  | [] => some []
  | r :: rs => match resultA P t s r with
    | some v => match resultsA t s rs with
      | some vs => some (v :: vs)
      | none => none
    | none => none

def noTup : AV → Bool
  | .tup _ => false
  | _ => true

def packA : List AV → Option AV
  | [v] => some v
  | vs => bif vs.all noTup then some (.tup vs) else none

def evBody (call : Bar → FuncId → List AV → St → Option (AV × St)) (b : Bar) (fuel : Nat) (fn : Func) (args : List AV) (s : St) : Option (AV × St) :=
  match fn.body with
  | none => none
  | some c =>
    bif dstsOk fn.ntmps c && Nat.ble args.length fn.ntmps then
      match (match evCode P call b fuel c (enterT args 0 .leaf) s with
        | some (.normal, t, s) => some (t, s)
        | some (.ret, t, s) => some (t, s)
        | _ => none) with
      | some (t, s) => match resultsA P t s fn.results.toList with
        | some vs => match packA vs with
          | some v => some (v, s)
          | none => none
        | none => none
      | none => none
    else none

/-- Functions that are given an answer of their own. -/
abbrev Prims := (Bar → FuncId → List AV → St → Option (AV × St)) → FuncId → Option (Bar → List AV → St → Option (AV × St))

def evCall (pr : Prims) (loops : Nat) : Nat → Bar → FuncId → List AV → St → Option (AV × St)
  | 0, _, _, _, _ => none
  | n + 1, b, f, args, s =>
    match pr (evCall pr loops n) f with
    | some p => p b args s
    | none => match P.funcs[f]? with
      | some fn => evBody P (evCall pr loops n) b loops fn args s
      | none => none
end
end Go.Ab
