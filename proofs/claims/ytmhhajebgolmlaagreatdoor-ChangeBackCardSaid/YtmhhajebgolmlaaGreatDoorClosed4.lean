/- A closed fact of the row, part 4. -/
import Derived.Test.YtmhhajebgolmlaaGreatDoorRows
import Derived.KernelRfl
namespace Go.E.Lives
open Go Go.Proofs Go.Proofs.YtmhhajebgolmlaaGreatDoor
set_option maxRecDepth 100000
theorem a4 : Rows.changeBackRow.named = Tryz.prog.varsNamed 3 := by kernel_rfl
end Go.E.Lives
