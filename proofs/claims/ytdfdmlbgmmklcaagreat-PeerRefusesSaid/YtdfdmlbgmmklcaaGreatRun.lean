import Derived.Test.YtdfdmlbgmmklcaaGreatSorted
import Derived.Test.YtdfdmlbgmmklcaaGreatClone
import Derived.Test.YtdfdmlbgmmklcaaGreatAcE
import Derived.KernelRfl
namespace Go.Proofs
open Go.Ab

theorem Tryz.isRem : Go.Ab.isRem (regionOf Tryz.f3 7) 3 37 52 53 54 12 = true := by kernel_rfl

set_option maxRecDepth 1000000 in
theorem Tryz.argThere (a : Int) : Go.Ab.argThere Tryz.prog (evCall Tryz.prog (prims Tryz.prog 100000 [44] [94, 158] [49, 160] [48]) 100000 200) Tryz.f3 7 100000 a = some (.int .i64 a) := by kernel_rfl

end Go.Proofs
