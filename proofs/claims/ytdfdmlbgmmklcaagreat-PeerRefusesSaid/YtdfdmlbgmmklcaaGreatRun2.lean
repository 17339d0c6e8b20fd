import Derived.Test.YtdfdmlbgmmklcaaGreatSorted
import Derived.Test.YtdfdmlbgmmklcaaGreatClone
import Derived.Test.YtdfdmlbgmmklcaaGreatAcE
import Derived.KernelRfl
namespace Go.Proofs
open Go.Ab
set_option maxRecDepth 1000000 in
theorem Tryz.allTrue (a : Int) : Go.Ab.allTrue Tryz.prog (evCall Tryz.prog (prims Tryz.prog 100000 [44] [94, 158] [49, 160] [48]) 100000 200) Tryz.f3 7 100000 52 53 54 [0, 1, 2, 3, 4, 5, 6, 7, 8, 9, 10, 11] a = true := by kernel_rfl
end Go.Proofs
