/- The law at each size of an arena, evaluated by the kernel: window, seed and numbers left open (1). -/
import Derived.Test.YtphkigpngblniaaGreatRrCfg
namespace Go.Proofs
open Go.Ab
set_option maxRecDepth 1000000 in
theorem Tryz.rr112 (a : Int) : Many.allThere Tryz.prog (evCall Tryz.prog (Tryz.prR 1 1 2) 100000 200) Tryz.f3 10 100000 1 68 69 70 [0, 1, 2, 3, 4, 5, 6, 7] [Tryz.cfgR, .int .i64 a, Tryz.full 6] a = some (some (.int .i64 a), true) := by kernel_rfl
set_option maxRecDepth 1000000 in
theorem Tryz.rr122 (a : Int) : Many.allThere Tryz.prog (evCall Tryz.prog (Tryz.prR 1 2 2) 100000 200) Tryz.f3 10 100000 1 68 69 70 [0, 1, 2, 3, 4, 5, 6, 7] [Tryz.cfgR, .int .i64 a, Tryz.full 6] a = some (some (.int .i64 a), true) := by kernel_rfl
set_option maxRecDepth 1000000 in
theorem Tryz.rr132 (a : Int) : Many.allThere Tryz.prog (evCall Tryz.prog (Tryz.prR 1 3 2) 100000 200) Tryz.f3 10 100000 1 68 69 70 [0, 1, 2, 3, 4, 5, 6, 7] [Tryz.cfgR, .int .i64 a, Tryz.full 6] a = some (some (.int .i64 a), true) := by kernel_rfl
set_option maxRecDepth 1000000 in
theorem Tryz.rr212 (a : Int) : Many.allThere Tryz.prog (evCall Tryz.prog (Tryz.prR 2 1 2) 100000 200) Tryz.f3 10 100000 1 68 69 70 [0, 1, 2, 3, 4, 5, 6, 7] [Tryz.cfgR, .int .i64 a, Tryz.full 6] a = some (some (.int .i64 a), true) := by kernel_rfl
set_option maxRecDepth 1000000 in
theorem Tryz.rr222 (a : Int) : Many.allThere Tryz.prog (evCall Tryz.prog (Tryz.prR 2 2 2) 100000 200) Tryz.f3 10 100000 1 68 69 70 [0, 1, 2, 3, 4, 5, 6, 7] [Tryz.cfgR, .int .i64 a, Tryz.full 6] a = some (some (.int .i64 a), true) := by kernel_rfl
set_option maxRecDepth 1000000 in
theorem Tryz.rr232 (a : Int) : Many.allThere Tryz.prog (evCall Tryz.prog (Tryz.prR 2 3 2) 100000 200) Tryz.f3 10 100000 1 68 69 70 [0, 1, 2, 3, 4, 5, 6, 7] [Tryz.cfgR, .int .i64 a, Tryz.full 6] a = some (some (.int .i64 a), true) := by kernel_rfl
set_option maxRecDepth 1000000 in
theorem Tryz.rr312 (a : Int) : Many.allThere Tryz.prog (evCall Tryz.prog (Tryz.prR 3 1 2) 100000 200) Tryz.f3 10 100000 1 68 69 70 [0, 1, 2, 3, 4, 5, 6, 7] [Tryz.cfgR, .int .i64 a, Tryz.full 6] a = some (some (.int .i64 a), true) := by kernel_rfl
set_option maxRecDepth 1000000 in
theorem Tryz.rr322 (a : Int) : Many.allThere Tryz.prog (evCall Tryz.prog (Tryz.prR 3 2 2) 100000 200) Tryz.f3 10 100000 1 68 69 70 [0, 1, 2, 3, 4, 5, 6, 7] [Tryz.cfgR, .int .i64 a, Tryz.full 6] a = some (some (.int .i64 a), true) := by kernel_rfl
set_option maxRecDepth 1000000 in
theorem Tryz.rr332 (a : Int) : Many.allThere Tryz.prog (evCall Tryz.prog (Tryz.prR 3 3 2) 100000 200) Tryz.f3 10 100000 1 68 69 70 [0, 1, 2, 3, 4, 5, 6, 7] [Tryz.cfgR, .int .i64 a, Tryz.full 6] a = some (some (.int .i64 a), true) := by kernel_rfl
end Go.Proofs
