/-
  No cell of these rows narrows 'for every input' (looked for: loops, veiled, ifaces, maps, wideKeys, modest, calm, conditions, laid).
  DERIVED. THE GIVEN ROWS OF THIS SEAT. 2 by the template 'for every input the law returns true; each argument reads behind the call as it read before'; 0 by the template 'total and deterministic' (their statements: YtphkigpngblniaaGreatTotals.lean).
  GIVEN WITH THE SEED: the statements are not yours to turn. If you find one false, say at which input.
  Laid BY PROGRAM, IN A SANDBOX (cutbox-rows.mjs): the forced cells as the released guide's own fill.sh prints them over the translation 3caf66fc76d684b3… (all of the seat's roots in one cut). By AI agents, Wed Nov 11 2026. No macro, syntax, notation, axiom, sorry.
-/
import Derived.Test.YtphkigpngblniaaGreatChecked
import GoSem.Claim
import GoSem.ClaimJoined
import GoSem.ClaimMapViews
import Derived.JoinedTies
import Derived.KernelRfl
namespace Go.Proofs.YtphkigpngblniaaGreat
/- THE CELL 'sum', in the pinned program and in every row, IS THE sha256 OF THE DUMP (.gsa) THAT YtphkigpngblniaaGreatProg.lean LOADS. Nothing in Lean hashes anything: it is a label: what it is worth is what the hold of that sum in a sandbox is worth. -/
noncomputable def Tryz.pinned : Pinned := { name := "ytphkigpngblniaagreat", sum := "3caf66fc76d684b35ba418194aa43b9f8c9f9a29186ca51fdd9f74daf02f41c4", checked := Tryz.checked }
namespace Rows
def none {H : Type} : Left H := { results := [], args := [] }

/-- 'joustlaw18.RollbackRefuses': WHATEVER THE INPUT: true; the input reads as it did. -/
def rollbackRefusesSpec : ChangeSpec := { name := "rollbackRefuses", fn := fun _ => fun
  | [d1, d2, d3] => { results := [.lit (.bool true)], args := [d1, d2, d3] }
  | _ => none }
def rollbackRefusesRow : OpenClaim := { program := "ytphkigpngblniaagreat", sum := "3caf66fc76d684b35ba418194aa43b9f8c9f9a29186ca51fdd9f74daf02f41c4", func := "joust/joustlaw18.RollbackRefuses", spec := "rollbackRefuses", inPlace := ["slices.overlaps[joust/api.Entity]", "maps.clone"], unfollowed := true, recurses := true, apart := false }
def RollbackRefusesSaid : Prop := rollbackRefusesRow.holds Tryz.pinned (OpenSpec.ofChange rollbackRefusesSpec)

/-- ITS FALSE NEIGHBOUR: 'it returns false'. Refute it at one input. -/
def rollbackRefusesWrong : ChangeSpec := { name := "rollbackRefuses", fn := fun _ => fun
  | [d1, d2, d3] => { results := [.lit (.bool false)], args := [d1, d2, d3] }
  | _ => none }
def RollbackRefusesWrongFalsely : Prop := rollbackRefusesRow.holds Tryz.pinned (OpenSpec.ofChange rollbackRefusesWrong)

/-- 'joustlaw25.SessionNil': WHATEVER THE INPUT: true; the input reads as it did. -/
def sessionNilSpec : ChangeSpec := { name := "sessionNil", fn := fun _ => fun
  | [d1, d2] => { results := [.lit (.bool true)], args := [d1, d2] }
  | _ => none }
def sessionNilRow : OpenClaim := { program := "ytphkigpngblniaagreat", sum := "3caf66fc76d684b35ba418194aa43b9f8c9f9a29186ca51fdd9f74daf02f41c4", func := "joust/joustlaw25.SessionNil", spec := "sessionNil", inPlace := ["slices.overlaps[joust/api.Entity]", "maps.clone"], unfollowed := true, recurses := true, apart := false }
def SessionNilSaid : Prop := sessionNilRow.holds Tryz.pinned (OpenSpec.ofChange sessionNilSpec)

/-- ITS FALSE NEIGHBOUR: 'it returns false'. Refute it at one input. -/
def sessionNilWrong : ChangeSpec := { name := "sessionNil", fn := fun _ => fun
  | [d1, d2] => { results := [.lit (.bool false)], args := [d1, d2] }
  | _ => none }
def SessionNilWrongFalsely : Prop := sessionNilRow.holds Tryz.pinned (OpenSpec.ofChange sessionNilWrong)

/- THE SECOND FORM. 'bulk': how many values and letters a reading holds, each counted each time it is reached (what is shared counts as often as it is met; a slice's spare places count too). A statement '..UptoSaid' is the law's where the arguments, and the package variables that the reading takes, are together of bulk at most 1048576: NARROWER than '..Said'. Prove '..Said' where nothing that the law and all that it calls make is longer than what came in: it says more and counts as full. Else prove '..UptoSaid'. A law counts once. -/
mutual
def uptoBulk {H : Type} : DataW H → Nat
  | .lit (.string bytes) => bytes.length + 1
  | .lit _ => 1
  | .nil => 1
  | .ptr d => uptoBulk d + 1
  | .slice elems spare => uptoBulkAll elems + uptoBulkAll spare + 1
  | .agg parts => uptoBulkAll parts + 1
  | .iface _ d => uptoBulk d + 1
  | .map entries => uptoBulkEntries entries + 1
  | .held _ => 1
def uptoBulkAll {H : Type} : List (DataW H) → Nat
  | [] => 0
  | d :: r => uptoBulk d + uptoBulkAll r
def uptoBulkEntries {H : Type} : List (Lit × DataW H) → Nat
  | [] => 0
  | x :: r => uptoBulkEntry x + uptoBulkEntries r
def uptoBulkEntry {H : Type} : Lit × DataW H → Nat
  | (.string bytes, d) => bytes.length + uptoBulk d + 1
  | (_, d) => uptoBulk d + 1
 end
def uptoSmall : (H : Type) → List (DataW H) → Bool := fun _ ds => decide (uptoBulkAll ds ≤ 1048576)
def OpenSpec.upto (s : _root_.Go.ChangeSpec) : _root_.Go.OpenSpec := { _root_.Go.OpenSpec.ofChange s with cond := some uptoSmall }

/-- 'joustlaw18.RollbackRefuses', WHERE WHAT IT READS IS OF BULK AT MOST 1048576: true; the input reads as it did. -/
def rollbackRefusesUptoRow : OpenClaim := { program := "ytphkigpngblniaagreat", sum := "3caf66fc76d684b35ba418194aa43b9f8c9f9a29186ca51fdd9f74daf02f41c4", func := "joust/joustlaw18.RollbackRefuses", spec := "rollbackRefuses", inPlace := ["slices.overlaps[joust/api.Entity]", "maps.clone"], unfollowed := true, recurses := true, apart := false, narrowed := true }
def RollbackRefusesUptoSaid : Prop := rollbackRefusesUptoRow.holds Tryz.pinned (OpenSpec.upto rollbackRefusesSpec)

/-- 'joustlaw25.SessionNil', WHERE WHAT IT READS IS OF BULK AT MOST 1048576: true; the input reads as it did. -/
def sessionNilUptoRow : OpenClaim := { program := "ytphkigpngblniaagreat", sum := "3caf66fc76d684b35ba418194aa43b9f8c9f9a29186ca51fdd9f74daf02f41c4", func := "joust/joustlaw25.SessionNil", spec := "sessionNil", inPlace := ["slices.overlaps[joust/api.Entity]", "maps.clone"], unfollowed := true, recurses := true, apart := false, narrowed := true }
def SessionNilUptoSaid : Prop := sessionNilUptoRow.holds Tryz.pinned (OpenSpec.upto sessionNilSpec)

end Rows
end Go.Proofs.YtphkigpngblniaaGreat
