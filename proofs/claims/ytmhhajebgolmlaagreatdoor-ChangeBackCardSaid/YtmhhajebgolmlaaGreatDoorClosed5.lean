/- A closed fact of the row, part 5. -/
import Derived.Test.YtmhhajebgolmlaaGreatDoorRows
import Derived.KernelRfl
import Derived.JoinedOf
namespace Go.E.Lives
open Go Go.Proofs Go.Proofs.YtmhhajebgolmlaaGreatDoor
set_option maxRecDepth 100000
theorem b1 : Tryz.prog.stopsHeard = true := by kernel_rfl
theorem b3 : mapsRowed Tryz.prog = true := by kernel_rfl
end Go.E.Lives
