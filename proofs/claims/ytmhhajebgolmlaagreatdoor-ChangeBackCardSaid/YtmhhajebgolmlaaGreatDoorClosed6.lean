/- A closed fact of the row, part 6. -/
import Derived.Test.YtmhhajebgolmlaaGreatDoorRows
import Derived.KernelRfl
import Derived.JoinedOf
namespace Go.E.Lives
open Go Go.Proofs Go.Proofs.YtmhhajebgolmlaaGreatDoor
set_option maxRecDepth 100000
theorem b2 : Tryz.prog.mayEnter = true := by kernel_rfl
end Go.E.Lives
