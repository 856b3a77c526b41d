/- The card of ChangeBack holds: for every input the call returns true and leaves its arguments as they were. -/
import Derived.Test.YtmhhajebgolmlaaGreatDoorRowD
import Derived.Test.YtmhhajebgolmlaaGreatDoorOwnTie
import Derived.Test.YtmhhajebgolmlaaGreatDoorFits
import Derived.Test.YtmhhajebgolmlaaGreatDoorCardA
import Derived.Test.YtmhhajebgolmlaaGreatDoorCardB
import Derived.Test.YtmhhajebgolmlaaGreatDoorCardC
import Derived.Test.YtmhhajebgolmlaaGreatDoorCards
namespace Go.Proofs.YtmhhajebgolmlaaGreatDoor
open Go
theorem changeBack_row_tie : Rows.changeBackRow.laidByTextAt .later Tryz.pinned [.pinned, .data, .data, .listed, .sentinel, .sentinel, .data, .data, .data] true :=
  OpenClaim.laidByTextAt_pinned rfl rfl tie2 rfl rfl rfl rfl (fun y hy _e => by
    simp only [Rows.changeBackRow, List.zip_cons_cons, List.zip_nil_right, List.mem_cons, List.mem_nil_iff, or_false] at hy
    rcases hy with rfl | rfl | rfl | rfl | rfl | rfl | rfl | rfl | rfl
    · exact ⟨pin_laid_unicode_utf8_first, by kernel_rfl⟩
    · cases _e
    · cases _e
    · cases _e
    · cases _e
    · cases _e
    · cases _e
    · cases _e
    · cases _e) fits1
theorem changeBack_card : Rows.ChangeBackCardSaid :=
  Claim7.holds_tied_plain_at .later [] [.pinned, .data, .data, .listed, .sentinel, .sentinel, .data, .data, .data] true (true, "d9054a65bdad9d5091c1535fef99d2cf6544c05964d9f178959c55dfd409d8b8") true
    Go.E.Lives.back_holds (fun _ h => by cases h) card_wf (fun _ h => by cases h) changeBack_row_tie rfl ⟨rfl, rfl⟩ card_main rfl
    (fun f fn hf hfn => by
      obtain rfl : f = 3 := Option.some.inj (card_named.symm.trans hf) |>.symm
      obtain rfl : fn = Tryz.f3 := (Option.some.inj (Tryz.func3.symm.trans hfn)).symm
      exact ⟨card_looks, fun j t ht => by
        rw [Tryz.params3] at ht
        have h3 : t = 22 ∨ t = 9 := by
          rcases j with _ | _ | j
          · exact .inl (by simpa using ht.symm)
          · exact .inr (by simpa using ht.symm)
          · simp at ht
        rcases h3 with rfl | rfl
        · exact card_22
        · exact card_9⟩)
    card_goes
#print axioms changeBack_card
end Go.Proofs.YtmhhajebgolmlaaGreatDoor
