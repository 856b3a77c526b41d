/- A closed fact of the row, part 7. -/
import Derived.Test.YtmhhajebgolmlaaGreatDoorClosed1
import Derived.Test.YtmhhajebgolmlaaGreatDoorClosed2
import Derived.Test.YtmhhajebgolmlaaGreatDoorClosed3
import Derived.Test.YtmhhajebgolmlaaGreatDoorClosed4
import Derived.Test.YtmhhajebgolmlaaGreatDoorClosed5
import Derived.Test.YtmhhajebgolmlaaGreatDoorClosed6
import Derived.Test.YtmhhajebgolmlaaGreatDoorLaid
namespace Go.E.Lives
open Go Go.Proofs Go.Proofs.YtmhhajebgolmlaaGreatDoor
set_option maxRecDepth 100000
theorem closedFacts : joinedFacts Tryz.prog 3 Tryz.f3 Rows.changeBackSpec Rows.changeBackRow = true := by
  unfold joinedFacts
  rw [← a1, ← a2, ← a3, ← a4, b1, b2, b3, laidOut]
  kernel_rfl
end Go.E.Lives
