/- The program's looks. -/
import Derived.Test.YtmhhajebgolmlaaGreatDoorRows
import Derived.LaidByTextLater
import Derived.SevenTiedAt
namespace Go.Proofs.YtmhhajebgolmlaaGreatDoor
open Go
set_option maxRecDepth 100000

theorem card_looks : true = Tryz.pinned.checked.prog.looks [] := by kernel_rfl
end Go.Proofs.YtmhhajebgolmlaaGreatDoor
