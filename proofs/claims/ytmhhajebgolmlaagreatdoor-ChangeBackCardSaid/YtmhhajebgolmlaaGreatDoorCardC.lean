/- Closed facts of the card. -/
import Derived.Test.YtmhhajebgolmlaaGreatDoorRows
import Derived.LaidByTextLater
import Derived.SevenTiedAt
namespace Go.Proofs.YtmhhajebgolmlaaGreatDoor
open Go
set_option maxRecDepth 100000

theorem card_wf : Rows.changeBackRow.wfByText (OpenSpec.ofChange Rows.changeBackSpec) = true := by kernel_rfl
theorem card_main : Tryz.pinned.checked.prog.mainIs = some (true, "d9054a65bdad9d5091c1535fef99d2cf6544c05964d9f178959c55dfd409d8b8".toList) := by kernel_rfl
theorem card_here : (!true && "d9054a65bdad9d5091c1535fef99d2cf6544c05964d9f178959c55dfd409d8b8".isEmpty && !true) = false := by kernel_rfl
theorem card_22 : Tryz.pinned.checked.prog.wantsStandIn 22 = false := by kernel_rfl
theorem card_9 : Tryz.pinned.checked.prog.wantsStandIn 9 = false := by kernel_rfl
theorem card_named : Tryz.pinned.checked.prog.funcNamed "lictor/lictorlaw16.ChangeBack" = some 3 := by kernel_rfl
end Go.Proofs.YtmhhajebgolmlaaGreatDoor
