/- The table's rows, by the kernel's runs of the plain machine, part 4. -/
import Derived.Test.YtmhhajebgolmlaaGreatDoorLives
import Derived.KernelRfl
import Derived.Test.YtmhhajebgolmlaaGreatDoorProg
open Go Go.E Go.Proofs
namespace Go.E.Lives
set_option maxRecDepth 100000
theorem r4 (m : Int) : (T4.all fun e => runs ((told m).ctx Tryz.prog fun f args => memoIn f args B4) 1000 e) = true := by kernel_rfl
theorem r5 (m : Int) : (T5.all fun e => runs ((told m).ctx Tryz.prog fun f args => memoIn f args B5) 1000 e) = true := by kernel_rfl
theorem r6 (m : Int) : (T6.all fun e => runs ((told m).ctx Tryz.prog fun f args => memoIn f args B6) 1000 e) = true := by kernel_rfl
theorem r7 (m : Int) : (T7.all fun e => runs ((told m).ctx Tryz.prog fun f args => memoIn f args B7) 1000 e) = true := by kernel_rfl
end Go.E.Lives
