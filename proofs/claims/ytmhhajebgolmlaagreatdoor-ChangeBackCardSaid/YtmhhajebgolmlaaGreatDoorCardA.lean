/- The call starts no goroutine. -/
import Derived.Test.YtmhhajebgolmlaaGreatDoorCardC
import GoSem.ClaimGoes
namespace Go.Proofs.YtmhhajebgolmlaaGreatDoor
open Go
set_option maxRecDepth 100000
theorem no_goes : Tryz.prog.funcs.any Func.goes = false := by kernel_rfl
theorem goes_none {P : Program} (h : P.funcs.any Func.goes = false) (f : FuncId) : P.goes f = false := by
  unfold Program.goes
  rw [h, Bool.and_false, Bool.or_false]
  refine List.any_eq_false.2 fun g _ hg => ?_
  cases he : P.funcs[g]? with
  | none => rw [he] at hg; cases hg
  | some fn =>
    rw [he] at hg
    have hm := Array.mem_of_getElem? he
    have : P.funcs.any Func.goes = true := Array.any_eq_true'.2 ⟨fn, hm, hg⟩
    rw [h] at this
    cases this
theorem card_goes : false = Rows.changeBackRow.goesBy Tryz.pinned.checked.prog := by
  show false = ((Tryz.prog.funcNamed "lictor/lictorlaw16.ChangeBack").any Tryz.prog.goes || false)
  rw [show Tryz.prog.funcNamed "lictor/lictorlaw16.ChangeBack" = some 3 from card_named, Option.any_some, goes_none no_goes]
  rfl
end Go.Proofs.YtmhhajebgolmlaaGreatDoor
