/- A world that fits. -/
import Derived.Test.YtmhhajebgolmlaaGreatDoorRowB
set_option linter.unusedSimpArgs false
set_option linter.unusedVariables false
namespace Go.E.Lives
open Go Go.E Go.Proofs Go.Proofs.YtmhhajebgolmlaaGreatDoor Pk Go.ChangeShapes Go.WideShapes Go.RowKit
set_option maxRecDepth 100000

/-! ### A world that fits -/
mutual
def flat : DataW Unit → List Value
  | .lit (.int k z) => [.int k z]
  | .agg l => flats l
  | _ => []
def flats : List (DataW Unit) → List Value
  | [] => []
  | d :: r => flat d ++ flats r
end
def putAt (h : Array Obj) (g : Nat) (cs : List Value) : Array Obj := h.modify g fun
  | .cells _ t frozen => .cells cs.toArray t frozen
  | o => o
def whites : List Int := [9, 13, 1, 32, 133, 101, 160, 5760, 5600, 8192, 8202, 1, 8232, 8233, 1, 8239, 8287, 48, 12288, 12288, 1]
def textOf (l : List UInt8) : ByteArray := ⟨l.toArray⟩

noncomputable def laidWorld (os : Os) : World :=
  let N := (World.settled Tryz.prog os).heap.size
  let w0 := World.holding Tryz.prog os ⟨#[.cells (whites.map fun z => Value.int .u16 z).toArray 508, .cells #[.slice (some ⟨N, 0, none⟩) 7 7, .slice none 0 0, .int .i64 2] 505,
    .cells #[.string (textOf [105, 110, 118, 97, 108, 105, 100, 32, 115, 121, 110, 116, 97, 120])] 575, .cells #[.string (textOf [118, 97, 108, 117, 101, 32, 111, 117, 116, 32, 111, 102, 32, 114, 97, 110, 103, 101])] 575], #[], []⟩
  let h0 := putAt w0.heap 0 (flat Rows.laid_unicode_utf8_first)
  let h1 := putAt h0 1 (flat Rows.laid_unicode_utf8_acceptRanges)
  let h2 := putAt h1 2 (flat Rows.laid_strings_asciiSpace)
  let h3 := putAt h2 3 [.pointer (some ⟨N + 1, 0, none⟩)]
  let h5 := putAt h3 5 (flat Rows.laid_internal_strconv_uint64pow10)
  let h6 := putAt h5 6 (flat Rows.laid_math_bits_deBruijn32tab)
  let h7 := putAt h6 7 (flat Rows.laid_math_bits_deBruijn64tab)
  let h8 := putAt h7 8 [.iface 573 (.pointer (some ⟨N + 2, 0, none⟩))]
  let h9 := putAt h8 9 [.iface 573 (.pointer (some ⟨N + 3, 0, none⟩))]
  { w0 with heap := h9 }
theorem laid_met (os : Os) (args : Array Value) : laidMet Tryz.prog Rows.changeBackRow.laid ((laidWorld os).forCall (fun _ _ => 0) ⟨#[], args, []⟩).memory :=
  laidMet_of_run3 10 (by kernel_rfl) (by kernel_rfl) (by kernel_rfl)
end Go.E.Lives
