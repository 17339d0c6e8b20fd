/- A deterministic evaluator of the model's code over an abstract heap (objects that grow, maps; an address names an object, the extent that its array had when it was made, and a cell): its definitions. -/
import GoSem.Core.View
import GoSem.Core.Region
import GoSem.Core.Next
import GoSem.Core.Layout
import GoSem.Op.Equal
import Derived.Orders
namespace Go.Ab

/-- A tree that is keyed by numbers. -/
inductive Tr (α : Type) where
  | leaf
  | node (l : Tr α) (v : Option α) (r : Tr α)

def Tr.get {α : Type} : Tr α → Nat → Option α
  | .leaf, _ => none
  | .node l v r, n => bif n == 0 then v else bif n % 2 == 1 then l.get (n / 2) else r.get (n / 2 - 1)

def Tr.setF {α : Type} (x : α) : Nat → Nat → Tr α → Tr α
  | 0, _, t => t
  | f + 1, n, t =>
    match t with
    | .leaf => bif n == 0 then .node .leaf (some x) .leaf else bif n % 2 == 1 then .node (Tr.setF x f (n / 2) .leaf) none .leaf else .node .leaf none (Tr.setF x f (n / 2 - 1) .leaf)
    | .node l v r => bif n == 0 then .node l (some x) r else bif n % 2 == 1 then .node (Tr.setF x f (n / 2) l) v r else .node l v (Tr.setF x f (n / 2 - 1) r)

def Tr.set {α : Type} (t : Tr α) (n : Nat) (x : α) : Tr α := Tr.setF x (n + 1) n t

/-- A place: object, version (the extent of its array), cell. -/
structure Loc where
  o : Nat
  v : Nat
  i : Nat

/-- Expressions over numbers that are not known. -/
inductive SE where
  | var (i : Nat)
  | add (e : SE) (o : Int)
  | wrap (e : SE)
  | rem (e : SE) (m : Int)

/-- What the unknown numbers are. -/
class Rho where
  val : Nat → Int

def SE.val [Rho] : SE → Int
  | .var i => Rho.val i
  | .add e o => e.val + o
  | .wrap e => IntKind.u64.wrap e.val
  | .rem e m => e.val.tmod m

/-- Values: 'sym k e lo hi o': a number that is not known, e + o, where e is from lo to hi; 'slice a len cap ex': 'ex': its capacity is cap; else it is at least cap (0: nothing is known of its address either). -/
inductive AV where
  | int (k : IntKind) (n : Int)
  | sym (k : IntKind) (e : SE) (lo hi o : Int)
  | bool (b : Bool)
  | str (s : ByteArray)
  | ptr (a : Option Loc)
  | slice (a : Option Loc) (len cap : Nat) (ex : Bool)
  | map (m : Option Nat)
  | func (f : FuncId) (cap : List Loc)
  | nilFunc
  | nilIface
  | agg (cs : List AV)
  | tup (vs : List AV)

/-- Objects: an array's cells, the least extent that is still alive, and whether it may not be written; a map's entries. -/
inductive AObj where
  | arr (cells : List AV) (lo : Nat) (ro : Bool)
  | map (es : List (AV × AV))

structure St where
  h : Tr AObj
  n : Nat

abbrev Temps := Tr AV

/-- The value of one cell. -/
def AV.one : AV → Bool
  | .agg _ | .tup _ => false
  | _ => true

def AV.cells : AV → List AV
  | .agg cs => cs
  | v => [v]

def absCell : Value → Option AV
  | .bool b => some (.bool b)
  | .int k n => some (.int k n)
  | .string s => some (.str s)
  | .pointer none => some (.ptr none)
  | .slice none 0 0 => some (.slice none 0 0 true)
  | .map none => some (.map none)
  | .nilFunc => some .nilFunc
  | .nilIface => some .nilIface
  | _ => none

def absCells : List Value → Option (List AV)
  | [] => some []
  | v :: vs => match absCell v with
    | some x => match absCells vs with
      | some xs => some (x :: xs)
      | none => none
    | none => none

def absV : Value → Option AV
  | .agg cs => match absCells cs.toList with
    | some xs => some (.agg xs)
    | none => none
  | v => absCell v

def undefA : AV := .tup []

/-- What may not be written: objects below 'lim', and those of 'no'. -/
structure Bar where
  lim : Nat
  no : List Nat

def Bar.ok (b : Bar) (o : Nat) : Bool := Nat.ble b.lim o && !(b.no.any (Nat.beq o))

def limit : Nat := 2 ^ 32

def St.put (s : St) (o : Nat) (x : AObj) : St := { h := s.h.set o x, n := s.n }

/-- n cells of an array object from a place on. -/
def readCells (s : St) (l : Loc) (n : Nat) : Option (List AV) :=
  match s.h.get l.o with
  | some (.arr cs lo _) => bif Nat.ble lo l.v && Nat.ble (l.i + n) l.v && Nat.ble l.v cs.length then some ((cs.drop l.i).take n) else none
  | _ => none

def splice (cs : List AV) (i : Nat) (vs : List AV) : List AV := cs.take i ++ vs ++ cs.drop (i + vs.length)

def writeCells (b : Bar) (s : St) (l : Loc) (vs : List AV) : Option St :=
  match vs with
  | [] => some s
  | v :: vs =>
    match s.h.get l.o with
    | some (.arr cs lo false) =>
      bif b.ok l.o && Nat.beq l.v cs.length && Nat.ble (l.i + (v :: vs).length) l.v && Nat.ble lo l.v then
        some (s.put l.o (.arr (splice cs l.i (v :: vs)) l.v false))
      else none
    | _ => none

/-- A new object, at the next number. -/
def newArr (s : St) (cs : List AV) : Loc × St := (⟨s.n, cs.length, 0⟩, { h := s.h.set s.n (.arr cs cs.length false), n := s.n + 1 })

def fillA (place : Nat → Option (Nat × Nat)) (cells : List AV) : List (Nat × AV) → Option (List AV)
  | [] => some cells
  | (i, v) :: rest =>
    match place i with
    | none => none
    | some (off, size) =>
      bif Nat.beq v.cells.length size && Nat.ble (off + size) cells.length && v.cells.all AV.one then fillA place (splice cells off v.cells) rest else none

def repeatA (z : List AV) : Nat → List AV
  | 0 => []
  | n + 1 => z ++ repeatA z n

def kindEq : IntKind → IntKind → Bool
  | .i8, .i8 | .i16, .i16 | .i32, .i32 | .i64, .i64 | .u8, .u8 | .u16, .u16 | .u32, .u32 | .u64, .u64 => true
  | _, _ => false

def intEq : Int → Int → Bool
  | .ofNat a, .ofNat b => Nat.beq a b
  | .negSucc a, .negSucc b => Nat.beq a b
  | _, _ => false

def intLe : Int → Int → Bool
  | .ofNat a, .ofNat b => Nat.ble a b
  | .negSucc a, .negSucc b => Nat.ble b a
  | .ofNat _, .negSucc _ => false
  | .negSucc _, .ofNat _ => true

def intLt (a b : Int) : Bool := !intLe b a

def boolEq : Bool → Bool → Bool
  | true, b => b
  | false, b => !b

def inK (k : IntKind) (n : Int) : Bool :=
  match k with
  | .i64 => intLe (Int.negSucc 9223372036854775807) n && intLe n (Int.ofNat 9223372036854775807)
  | .u64 => intLe (Int.ofNat 0) n && intLe n (Int.ofNat 18446744073709551615)
  | .u8 => intLe (Int.ofNat 0) n && intLe n (Int.ofNat 255)
  | _ => false

def SE.beq : SE → SE → Bool
  | .var i, .var j => Nat.beq i j
  | .add e o, .add f p => SE.beq e f && intEq o p
  | .wrap e, .wrap f => SE.beq e f
  | .rem e m, .rem f n => SE.beq e f && intEq m n
  | _, _ => false

def AV.isSym : AV → Bool
  | .sym _ _ _ _ _ => true
  | _ => false

def symCmp (op : BinOp) (a b : Int) : Option Bool :=
  match op with
  | .eql => some (intEq a b)
  | .neq => some (!intEq a b)
  | .lss => some (intLt a b)
  | .leq => some (intLe a b)
  | .gtr => some (intLt b a)
  | .geq => some (intLe b a)
  | _ => none

/-- Of two numbers between bounds. -/
def symRange (op : BinOp) (lo hi lo' hi' : Int) : Option Bool :=
  match op with
  | .eql => bif intLt hi lo' || intLt hi' lo then some false else none
  | .neq => bif intLt hi lo' || intLt hi' lo then some true else none
  | .lss => bif intLt hi lo' then some true else bif intLe hi' lo then some false else none
  | .leq => bif intLe hi lo' then some true else bif intLt hi' lo then some false else none
  | .gtr => bif intLt hi' lo then some true else bif intLe hi lo' then some false else none
  | .geq => bif intLe hi' lo then some true else bif intLt hi lo' then some false else none
  | _ => none

def symAdd (k : IntKind) (e : SE) (lo hi o : Int) : Option AV := bif inK k (lo + o) && inK k (hi + o) then some (.sym k e lo hi o) else none

def boolO : Option Bool → Option AV
  | some b => some (.bool b)
  | none => none

def symBin (op : BinOp) (x y : AV) : Option AV :=
  match x, y with
  | .sym k e lo hi o, .int k' c => bif kindEq k k' then
      match op with
      | .add => symAdd k e lo hi (o + c)
      | .sub => symAdd k e lo hi (o - c)
      | .rem => bif intLe 0 (lo + o) && intLt 0 c then some (.sym k (.rem (.add e o) c) 0 (c - 1) 0) else none
      | op => boolO (symRange op (lo + o) (hi + o) c c)
    else none
  | .int k' c, .sym k e lo hi o => bif kindEq k k' then
      match op with
      | .add => symAdd k e lo hi (o + c)
      | op => boolO (symRange op c c (lo + o) (hi + o))
    else none
  | .sym k e lo hi o, .sym k' e' lo' hi' o' => bif kindEq k k' then
      bif SE.beq e e' then boolO (symCmp op o o') else boolO (symRange op (lo + o) (hi + o) (lo' + o') (hi' + o'))
    else none
  | _, _ => none

def symConv (k : IntKind) (e : SE) (lo hi o : Int) : Option AV :=
  bif inK k (lo + o) && inK k (hi + o) then some (.sym k e lo hi o)
  else bif kindEq k .u64 then some (.sym .u64 (.wrap (.add e o)) 0 18446744073709551615 0) else none

section
variable (P : Program)

def isAggT (t : TypeId) : Option Bool :=
  match P.underlying t with
  | some (.struct _) | some (.array _ _) => some true
  | some _ => some false
  | none => none

def sizeT (t : TypeId) : Option Nat := match P.info? t with
  | some i => some i.size
  | none => none

def bytesT (t : TypeId) : Option Nat := match P.info? t with
  | some i => some i.bytes
  | none => none

def zeroT (t : TypeId) : Option AV :=
  match P.info? t with
  | some i => match i.zero with
    | some v => absV v
    | none => none
  | none => none

def partA (t : TypeId) (cs : List AV) (off : Nat) : Option AV :=
  match isAggT P t, sizeT P t with
  | some true, some n => bif Nat.ble (off + n) cs.length then some (.agg ((cs.drop off).take n)) else none
  | some false, some _ => cs[off]?
  | _, _ => none

def eqFields (eq : TypeId → AV → AV → Option Bool) : List Field → List AV → List AV → Option Bool
  | [], _, _ => some true
  | f :: fs, xs, ys => bif f.name == "_" then none else
    match partA P f.type xs f.offset, partA P f.type ys f.offset with
    | some x, some y => match eq f.type x y with
      | some true => eqFields eq fs xs ys
      | some false => some false
      | none => none
    | _, _ => none

/-- '==' at a type, as deep as so many levels. -/
def eqA : Nat → TypeId → AV → AV → Option Bool
  | 0, _, _, _ => none
  | d + 1, t, x, y =>
    match P.underlying t with
    | some .bool => match x, y with
      | .bool a, .bool b => some (boolEq a b)
      | _, _ => none
    | some (.int _) => match x, y with
      | .int k a, .int k' b => bif kindEq k k' then some (intEq a b) else none
      | x, y => match symBin .eql x y with
        | some (.bool b) => some b
        | _ => none
    | some .string => match x, y with
      | .str a, .str b => some (a == b)
      | _, _ => none
    | some (.pointer e) => match x, y with
      | .ptr none, .ptr b => some b.isNone
      | .ptr (some _), .ptr none => some false
      | .ptr (some a), .ptr (some b) => match sizeT P e with
        | some _ => bif Nat.beq a.o b.o && Nat.beq a.v b.v && Nat.beq a.i b.i then some true else none
        | none => none
      | _, _ => none
    | some (.slice _) => match x, y with
      | .slice none _ _ _, .slice b _ _ _ => some b.isNone
      | .slice (some _) _ _ _, .slice none _ _ _ => some false
      | _, _ => none
    | some (.map _ _) => match x, y with
      | .map none, .map b => some b.isNone
      | .map (some _), .map none => some false
      | _, _ => none
    | some (.func _ _ _) => match x, y with
      | .nilFunc, .nilFunc => some true
      | .nilFunc, .func _ _ => some false
      | .func _ _, .nilFunc => some false
      | _, _ => none
    | some (.struct fs) => match x, y with
      | .agg xs, .agg ys => bif P.stoodInHeld t then none else eqFields P (eqA d) fs.toList xs ys
      | _, _ => none
    | _ => none
end
end Go.Ab
