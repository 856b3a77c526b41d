/- The table's rows, by the kernel's runs of the plain machine, part 5. -/
import Derived.Test.YtmhhajebgolmlaaGreatDoorLives
import Derived.KernelRfl
import Derived.Test.YtmhhajebgolmlaaGreatDoorProg
open Go Go.E Go.Proofs
namespace Go.E.Lives
set_option maxRecDepth 100000
theorem r8 (m : Int) : (T8.all fun e => runs ((told m).ctx Tryz.prog fun f args => memoIn f args B8) 1000 e) = true := by kernel_rfl
theorem r9 (m : Int) : (T9.all fun e => runs ((told m).ctx Tryz.prog fun f args => memoIn f args B9) 1000 e) = true := by kernel_rfl
theorem r10 (m : Int) : (T10.all fun e => runs ((told m).ctx Tryz.prog fun f args => memoIn f args B10) 1000 e) = true := by kernel_rfl
theorem r11 (m : Int) : (T11.all fun e => runs ((told m).ctx Tryz.prog fun f args => memoIn f args B11) 1000 e) = true := by kernel_rfl
theorem r12 (m : Int) : (T12.all fun e => runs ((told m).ctx Tryz.prog fun f args => memoIn f args B12) 1000 e) = true := by kernel_rfl
theorem r13 (m : Int) : (T13.all fun e => runs ((told m).ctx Tryz.prog fun f args => memoIn f args B13) 1000 e) = true := by kernel_rfl
end Go.E.Lives
