/- A closed fact of the row, part 2. -/
import Derived.Test.YtmhhajebgolmlaaGreatDoorRows
import Derived.KernelRfl
namespace Go.E.Lives
open Go Go.Proofs Go.Proofs.YtmhhajebgolmlaaGreatDoor
set_option maxRecDepth 100000
theorem a2 : Rows.changeBackRow.unfollowed = Tryz.prog.unfollowed 3 := by kernel_rfl
end Go.E.Lives
