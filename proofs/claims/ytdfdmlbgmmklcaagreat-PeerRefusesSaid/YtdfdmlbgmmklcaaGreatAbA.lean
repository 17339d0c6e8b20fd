/- A deterministic evaluator of the model's code over an abstract heap (objects that grow, maps; an address names an object, the extent that its array had when it was made, and a cell): its definitions. -/
import GoSem.Core.View
import GoSem.Core.Region
import GoSem.Core.Next
import GoSem.Core.Layout
import GoSem.Op.Equal
import Derived.Orders
namespace Go.Ab

/-- A tree that is keyed by numbers. -/
inductive Tr (α : Type) where
  | leaf
  | node (l : Tr α) (v : Option α) (r : Tr α)

def Tr.get {α : Type} : Tr α → Nat → Option α
  | .leaf, _ => none
  | .node l v r, n => bif n == 0 then v else bif n % 2 == 1 then l.get (n / 2) else r.get (n / 2 - 1)

def Tr.setF {α : Type} (x : α) : Nat → Nat → Tr α → Tr α
  | 0, _, t => t
  | f + 1, n, t =>
    match t with
    | .leaf => bif n == 0 then .node .leaf (some x) .leaf else bif n % 2 == 1 then .node (Tr.setF x f (n / 2) .leaf) none .leaf else .node .leaf none (Tr.setF x f (n / 2 - 1) .leaf)
    | .node l v r => bif n == 0 then .node l (some x) r else bif n % 2 == 1 then .node (Tr.setF x f (n / 2) l) v r else .node l v (Tr.setF x f (n / 2 - 1) r)

def Tr.set {α : Type} (t : Tr α) (n : Nat) (x : α) : Tr α := Tr.setF x (n + 1) n t

/-- A place: object, version (the extent of its array), cell. -/
structure Loc where
  o : Nat
  v : Nat
  i : Nat

/-- Values: 'slice a len cap ex': 'ex': its capacity is cap; else it is at least cap (0: nothing is known of its address either). -/
inductive AV where
  | int (k : IntKind) (n : Int)
  | bool (b : Bool)
  | str (s : ByteArray)
  | ptr (a : Option Loc)
  | slice (a : Option Loc) (len cap : Nat) (ex : Bool)
  | map (m : Option Nat)
  | func (f : FuncId) (cap : List Loc)
  | nilFunc
  | nilIface
  | agg (cs : List AV)
  | tup (vs : List AV)

/-- Objects: an array's cells, the least extent that is still alive, and whether it may not be written; a map's entries. -/
inductive AObj where
  | arr (cells : List AV) (lo : Nat) (ro : Bool)
  | map (es : List (AV × AV))

structure St where
  h : Tr AObj
  n : Nat

abbrev Temps := Tr AV

/-- The value of one cell. -/
def AV.one : AV → Bool
  | .agg _ | .tup _ => false
  | _ => true

def AV.cells : AV → List AV
  | .agg cs => cs
  | v => [v]

def absCell : Value → Option AV
  | .bool b => some (.bool b)
  | .int k n => some (.int k n)
  | .string s => some (.str s)
  | .pointer none => some (.ptr none)
  | .slice none 0 0 => some (.slice none 0 0 true)
  | .map none => some (.map none)
  | .nilFunc => some .nilFunc
  | .nilIface => some .nilIface
  | _ => none

def absCells : List Value → Option (List AV)
  | [] => some []
  | v :: vs => match absCell v with
    | some x => match absCells vs with
      | some xs => some (x :: xs)
      | none => none
    | none => none

def absV : Value → Option AV
  | .agg cs => match absCells cs.toList with
    | some xs => some (.agg xs)
    | none => none
  | v => absCell v

def undefA : AV := .tup []

/-- What may not be written: objects below 'lim', and those of 'no'. -/
structure Bar where
  lim : Nat
  no : List Nat

def Bar.ok (b : Bar) (o : Nat) : Bool := Nat.ble b.lim o && !(b.no.any (Nat.beq o))

def limit : Nat := 2 ^ 32

def St.put (s : St) (o : Nat) (x : AObj) : St := { h := s.h.set o x, n := s.n }

/-- n cells of an array object from a place on. -/
def readCells (s : St) (l : Loc) (n : Nat) : Option (List AV) :=
  match s.h.get l.o with
  | some (.arr cs lo _) => bif Nat.ble lo l.v && Nat.ble (l.i + n) l.v && Nat.ble l.v cs.length then some ((cs.drop l.i).take n) else none
  | _ => none

def splice (cs : List AV) (i : Nat) (vs : List AV) : List AV := cs.take i ++ vs ++ cs.drop (i + vs.length)

def writeCells (b : Bar) (s : St) (l : Loc) (vs : List AV) : Option St :=
  match vs with
  | [] => some s
  | v :: vs =>
    match s.h.get l.o with
    | some (.arr cs lo false) =>
      bif b.ok l.o && Nat.beq l.v cs.length && Nat.ble (l.i + (v :: vs).length) l.v && Nat.ble lo l.v then
        some (s.put l.o (.arr (splice cs l.i (v :: vs)) l.v false))
      else none
    | _ => none

/-- A new object, at the next number. -/
def newArr (s : St) (cs : List AV) : Loc × St := (⟨s.n, cs.length, 0⟩, { h := s.h.set s.n (.arr cs cs.length false), n := s.n + 1 })

def fillA (place : Nat → Option (Nat × Nat)) (cells : List AV) : List (Nat × AV) → Option (List AV)
  | [] => some cells
  | (i, v) :: rest =>
    match place i with
    | none => none
    | some (off, size) =>
      bif Nat.beq v.cells.length size && Nat.ble (off + size) cells.length && v.cells.all AV.one then fillA place (splice cells off v.cells) rest else none

def repeatA (z : List AV) : Nat → List AV
  | 0 => []
  | n + 1 => z ++ repeatA z n

def kindEq : IntKind → IntKind → Bool
  | .i8, .i8 | .i16, .i16 | .i32, .i32 | .i64, .i64 | .u8, .u8 | .u16, .u16 | .u32, .u32 | .u64, .u64 => true
  | _, _ => false

def intEq : Int → Int → Bool
  | .ofNat a, .ofNat b => Nat.beq a b
  | .negSucc a, .negSucc b => Nat.beq a b
  | _, _ => false

def intLe : Int → Int → Bool
  | .ofNat a, .ofNat b => Nat.ble a b
  | .negSucc a, .negSucc b => Nat.ble b a
  | .ofNat _, .negSucc _ => false
  | .negSucc _, .ofNat _ => true

def intLt (a b : Int) : Bool := !intLe b a

def boolEq : Bool → Bool → Bool
  | true, b => b
  | false, b => !b

section
variable (P : Program)

def isAggT (t : TypeId) : Option Bool :=
  match P.underlying t with
  | some (.struct _) | some (.array _ _) => some true
  | some _ => some false
  | none => none

def sizeT (t : TypeId) : Option Nat := match P.info? t with
  | some i => some i.size
  | none => none

def bytesT (t : TypeId) : Option Nat := match P.info? t with
  | some i => some i.bytes
  | none => none

def zeroT (t : TypeId) : Option AV :=
  match P.info? t with
  | some i => match i.zero with
    | some v => absV v
    | none => none
  | none => none

def partA (t : TypeId) (cs : List AV) (off : Nat) : Option AV :=
  match isAggT P t, sizeT P t with
  | some true, some n => bif Nat.ble (off + n) cs.length then some (.agg ((cs.drop off).take n)) else none
  | some false, some _ => cs[off]?
  | _, _ => none

def eqFields (eq : TypeId → AV → AV → Option Bool) : List Field → List AV → List AV → Option Bool
  | [], _, _ => some true
  | f :: fs, xs, ys => bif f.name == "_" then none else
    match partA P f.type xs f.offset, partA P f.type ys f.offset with
    | some x, some y => match eq f.type x y with
      | some true => eqFields eq fs xs ys
      | some false => some false
      | none => none
    | _, _ => none

/-- '==' at a type, as deep as so many levels. -/
def eqA : Nat → TypeId → AV → AV → Option Bool
  | 0, _, _, _ => none
  | d + 1, t, x, y =>
    match P.underlying t with
    | some .bool => match x, y with
      | .bool a, .bool b => some (boolEq a b)
      | _, _ => none
    | some (.int _) => match x, y with
      | .int k a, .int k' b => bif kindEq k k' then some (intEq a b) else none
      | _, _ => none
    | some .string => match x, y with
      | .str a, .str b => some (a == b)
      | _, _ => none
    | some (.pointer _) => match x, y with
      | .ptr none, .ptr b => some b.isNone
      | .ptr (some _), .ptr none => some false
      | _, _ => none
    | some (.slice _) => match x, y with
      | .slice none _ _ _, .slice b _ _ _ => some b.isNone
      | .slice (some _) _ _ _, .slice none _ _ _ => some false
      | _, _ => none
    | some (.map _ _) => match x, y with
      | .map none, .map b => some b.isNone
      | .map (some _), .map none => some false
      | _, _ => none
    | some (.func _ _ _) => match x, y with
      | .nilFunc, .nilFunc => some true
      | .nilFunc, .func _ _ => some false
      | .func _ _, .nilFunc => some false
      | _, _ => none
    | some (.struct fs) => match x, y with
      | .agg xs, .agg ys => bif P.stoodInHeld t then none else eqFields P (eqA d) fs.toList xs ys
      | _, _ => none
    | _ => none
end
end Go.Ab
