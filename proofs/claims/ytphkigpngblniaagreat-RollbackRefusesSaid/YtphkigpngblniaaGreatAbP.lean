/- The functions that are given an answer of their own: the sorted keys of a map, a map's copy, an engine's fork. -/
import Derived.Test.YtphkigpngblniaaGreatAbB
namespace Go.Ab

def insI (n : Int) : List Int → List Int
  | [] => [n]
  | m :: ms => bif intLe n m then n :: m :: ms else m :: insI n ms

def sortI : List Int → List Int
  | [] => []
  | n :: ns => insI n (sortI ns)

/-- The keys; they are of one kind. -/
def keysA : List (AV × AV) → Option (List Int)
  | [] => some []
  | (.int .i64 n, _) :: es => match keysA es with
    | some ns => some (n :: ns)
    | none => none
  | _ :: _ => none

/-- slices.Sorted(maps.Keys(m)): 'ks': the literals of maps.Keys. -/
def sortedKeys (ks : List FuncId) (_ : Bar) (args : List AV) (s : St) : Option (AV × St) :=
  match args with
  | [.func g [l]] => bif ks.any (Nat.beq g) && Nat.beq l.i 0 then
      match readCells s l 1 with
      | some [.map m] => match entriesA s m with
        | some es => match keysA es with
          | some [] => some (.slice none 0 0 true, s)
          | some ns => bif !(ns.all (inK .i64) && Nat.ble ns.length limit) then none else some (.slice (some (newArr s ((sortI ns).map (.int .i64))).1) ns.length ns.length false, (newArr s ((sortI ns).map (.int .i64))).2)
          | none => none
        | none => none
      | _ => none
    else none
  | _ => none

/-- maps.Clone -/
def mapsClone (_ : Bar) (args : List AV) (s : St) : Option (AV × St) :=
  match args with
  | [.map none] => some (.map none, s)
  | [.map (some m)] => match s.h.get m with
    | some (.map es) => some (.map (some s.n), { h := s.h.set s.n (.map es), n := s.n + 1 })
    | _ => none
  | _ => none


end Go.Ab
