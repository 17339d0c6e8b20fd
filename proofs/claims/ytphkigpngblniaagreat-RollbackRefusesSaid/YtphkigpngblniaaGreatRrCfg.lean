/- joustplay.Config, of whatever arena: evaluated way by way, its numbers left open. -/
import Derived.Test.YtphkigpngblniaaGreatAcH
import Derived.Test.YtphkigpngblniaaGreatProg
import Derived.KernelRfl
namespace Go.Proofs
open Go.Ab

/-- A number of which bounds are known. -/
abbrev Tryz.sy (i : Nat) (lo hi : Int) : AV := .sym .i64 (.var i) lo hi 0
abbrev Tryz.seed : AV := .sym .u64 (.var 4) 0 18446744073709551615 0
/-- One and a remainder: of a number that may be below 0, and of one that is not. -/
abbrev Tryz.ry (i : Nat) (m : Int) : AV := .sym .i64 (.rem (.add (.wrap (.add (.var i) 0)) 0) m) 0 (m - 1) 1
abbrev Tryz.rp (i : Nat) (m : Int) : AV := .sym .i64 (.rem (.add (.var i) 0) m) 0 (m - 1) 1
abbrev Tryz.cfgA (a b c d e f g h : Int) : AV := .agg [Tryz.sy 0 a b, Tryz.sy 1 c d, Tryz.sy 2 e f, Tryz.sy 3 g h, Tryz.seed]

set_option maxRecDepth 1000000 in
theorem Tryz.cfg0 : answer1 Tryz.prog noPrims 100000 10 5 [Tryz.cfgA (-9223372036854775808) 0 (-9223372036854775808) 9223372036854775807 (-9223372036854775808) 9223372036854775807 (-9223372036854775808) 9223372036854775807] = some (.agg [Tryz.ry 0 3, Tryz.ry 1 3, Tryz.ry 2 4, Tryz.ry 3 8, Tryz.seed]) := by kernel_rfl
set_option maxRecDepth 1000000 in
theorem Tryz.cfg1 : answer1 Tryz.prog noPrims 100000 10 5 [Tryz.cfgA 5 9223372036854775807 (-9223372036854775808) 9223372036854775807 (-9223372036854775808) 9223372036854775807 (-9223372036854775808) 9223372036854775807] = some (.agg [Tryz.rp 0 3, Tryz.ry 1 3, Tryz.ry 2 4, Tryz.ry 3 8, Tryz.seed]) := by kernel_rfl
set_option maxRecDepth 1000000 in
theorem Tryz.cfg2 : answer1 Tryz.prog noPrims 100000 10 5 [Tryz.cfgA 1 4 (-9223372036854775808) 0 (-9223372036854775808) 9223372036854775807 (-9223372036854775808) 9223372036854775807] = some (.agg [Tryz.rp 0 3, Tryz.ry 1 3, Tryz.ry 2 4, Tryz.ry 3 8, Tryz.seed]) := by kernel_rfl
set_option maxRecDepth 1000000 in
theorem Tryz.cfg3 : answer1 Tryz.prog noPrims 100000 10 5 [Tryz.cfgA 1 4 5 9223372036854775807 (-9223372036854775808) 9223372036854775807 (-9223372036854775808) 9223372036854775807] = some (.agg [Tryz.rp 0 3, Tryz.rp 1 3, Tryz.ry 2 4, Tryz.ry 3 8, Tryz.seed]) := by kernel_rfl
set_option maxRecDepth 1000000 in
theorem Tryz.cfg4 : answer1 Tryz.prog noPrims 100000 10 5 [Tryz.cfgA 1 4 1 4 (-9223372036854775808) 0 (-9223372036854775808) 9223372036854775807] = some (.agg [Tryz.rp 0 3, Tryz.rp 1 3, Tryz.ry 2 4, Tryz.ry 3 8, Tryz.seed]) := by kernel_rfl
set_option maxRecDepth 1000000 in
theorem Tryz.cfg5 : answer1 Tryz.prog noPrims 100000 10 5 [Tryz.cfgA 1 4 1 4 7 9223372036854775807 (-9223372036854775808) 9223372036854775807] = some (.agg [Tryz.rp 0 3, Tryz.rp 1 3, Tryz.rp 2 4, Tryz.ry 3 8, Tryz.seed]) := by kernel_rfl
set_option maxRecDepth 1000000 in
theorem Tryz.cfg6 : answer1 Tryz.prog noPrims 100000 10 5 [Tryz.cfgA 1 4 1 4 1 6 (-9223372036854775808) 0] = some (.agg [Tryz.rp 0 3, Tryz.rp 1 3, Tryz.rp 2 4, Tryz.ry 3 8, Tryz.seed]) := by kernel_rfl
set_option maxRecDepth 1000000 in
theorem Tryz.cfg7 : answer1 Tryz.prog noPrims 100000 10 5 [Tryz.cfgA 1 4 1 4 1 6 17 9223372036854775807] = some (.agg [Tryz.rp 0 3, Tryz.rp 1 3, Tryz.rp 2 4, Tryz.rp 3 8, Tryz.seed]) := by kernel_rfl
set_option maxRecDepth 1000000 in
theorem Tryz.cfg8 : answer1 Tryz.prog noPrims 100000 10 5 [Tryz.cfgA 4 4 1 4 1 6 1 16] = some (.agg [Tryz.rp 0 3, Tryz.rp 1 3, Tryz.rp 2 4, Tryz.rp 3 8, Tryz.seed]) := by kernel_rfl
set_option maxRecDepth 1000000 in
theorem Tryz.cfg9 : answer1 Tryz.prog noPrims 100000 10 5 [Tryz.cfgA 1 3 4 4 1 6 1 16] = some (.agg [Tryz.rp 0 3, Tryz.rp 1 3, Tryz.rp 2 4, Tryz.rp 3 8, Tryz.seed]) := by kernel_rfl
set_option maxRecDepth 1000000 in
theorem Tryz.cfg10 : answer1 Tryz.prog noPrims 100000 10 5 [Tryz.cfgA 1 3 1 3 5 6 1 16] = some (.agg [Tryz.rp 0 3, Tryz.rp 1 3, Tryz.rp 2 4, Tryz.rp 3 8, Tryz.seed]) := by kernel_rfl
set_option maxRecDepth 1000000 in
theorem Tryz.cfgOk : answer1 Tryz.prog noPrims 100000 10 5 [Tryz.cfgA 1 3 1 3 1 4 1 16] = some (Tryz.cfgA 1 3 1 3 1 4 1 16) := by kernel_rfl

abbrev Tryz.full (i : Nat) : AV := .sym .i64 (.var i) (-9223372036854775808) 9223372036854775807 0
abbrev Tryz.cfgR : AV := .agg [Tryz.full 0, Tryz.full 1, Tryz.full 2, Tryz.full 3, Tryz.seed]
/-- An arena of a size that is known. -/
abbrev Tryz.cfgS (c r p : Int) : AV := .agg [.int .i64 c, .int .i64 r, .int .i64 p, Tryz.sy 5 1 16, Tryz.seed]
/-- Answers: of Config, and of awake. -/
abbrev Tryz.prR (c r p : Int) : Prims := withCall 5 [Tryz.cfgR] (Tryz.cfgS c r p) (withKnown [7] noPrims)

theorem Tryz.isRemW : Many.isRem 1 (regionOf Tryz.f3 10) 3 37 68 69 70 8 = true := by kernel_rfl
end Go.Proofs
