/- The closed facts of the row, one by one. -/
import Derived.Test.YtphkigpngblniaaGreatRows
import Derived.ProofKit
import Derived.KernelRfl
namespace Go.Proofs.YtphkigpngblniaaGreat
theorem RrF.laid : laidOutB Tryz.prog = true := by kernel_rfl
theorem RrF.rowed : mapsRowed Tryz.prog = true := by kernel_rfl
theorem RrF.inPlace : (Rows.rollbackRefusesRow.inPlace == Tryz.prog.inPlace 3) = true := by kernel_rfl
theorem RrF.unfollowed : (Rows.rollbackRefusesRow.unfollowed == Tryz.prog.unfollowed 3) = true := by kernel_rfl
theorem RrF.recurses : (Rows.rollbackRefusesRow.recurses == Tryz.prog.recurses 3) = true := by kernel_rfl
theorem RrF.named : (Rows.rollbackRefusesRow.named == Tryz.prog.varsNamed 3) = true := by kernel_rfl
theorem RrF.heard : Tryz.prog.stopsHeard = true := by kernel_rfl
theorem RrF.enter : Tryz.prog.mayEnter = true := by kernel_rfl
theorem RrF.lifts : (Rows.rollbackRefusesRow.lifted == Tryz.prog.liftsFinal) = true := by kernel_rfl
theorem RrF.plainKeys : (Rows.rollbackRefusesRow.plainKeys == Tryz.prog.plainKeys) = true := by kernel_rfl
end Go.Proofs.YtphkigpngblniaaGreat
