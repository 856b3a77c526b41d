/- The table's rows, by the kernel's runs of the plain machine, part 2. -/
import Derived.Test.YtmhhajebgolmlaaGreatDoorLives
import Derived.KernelRfl
import Derived.Test.YtmhhajebgolmlaaGreatDoorProg
open Go Go.E Go.Proofs
namespace Go.E.Lives
set_option maxRecDepth 100000
theorem r2 (m : Int) : (T2.all fun e => runs ((told m).ctx Tryz.prog fun f args => memoIn f args B2) 1000 e) = true := by kernel_rfl
end Go.E.Lives
