/- The program's types are laid out. -/
import Derived.Test.YtmhhajebgolmlaaGreatDoorRows
import Derived.KernelRfl
import Derived.JoinedOf
namespace Go.E.Lives
open Go Go.Proofs Go.Proofs.YtmhhajebgolmlaaGreatDoor
set_option maxRecDepth 100000
theorem laidOut : laidOutB Tryz.prog = true := by kernel_rfl
end Go.E.Lives
