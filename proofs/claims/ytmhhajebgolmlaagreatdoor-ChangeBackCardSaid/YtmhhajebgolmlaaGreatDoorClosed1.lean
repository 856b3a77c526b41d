/- A closed fact of the row, part 1. -/
import Derived.Test.YtmhhajebgolmlaaGreatDoorRows
import Derived.KernelRfl
namespace Go.E.Lives
open Go Go.Proofs Go.Proofs.YtmhhajebgolmlaaGreatDoor
set_option maxRecDepth 100000
theorem a1 : Rows.changeBackRow.inPlace = Tryz.prog.inPlace 3 := by kernel_rfl
end Go.E.Lives
