/- The row of ChangeBack holds. -/
import Derived.Test.YtmhhajebgolmlaaGreatDoorRowC
import Derived.Test.YtmhhajebgolmlaaGreatDoorClosed7
set_option linter.unusedSimpArgs false
set_option linter.unusedVariables false
namespace Go.E.Lives
open Go Go.E Go.Proofs Go.Proofs.YtmhhajebgolmlaaGreatDoor Pk Go.ChangeShapes Go.WideShapes Go.RowKit
set_option maxRecDepth 100000

abbrev spec3 : OpenSpec := OpenSpec.ofChange Rows.changeBackSpec
noncomputable abbrev wargs : Array Value := #[.slice none 0 0, .string ByteArray.empty]

theorem witness_row (os : Os) {H : Type} (enc : TypeId × Value → H) :
    spec3.preRow enc Tryz.prog Tryz.f3 Rows.changeBackRow.domain false Rows.changeBackRow.laid ((laidWorld os).forCall (fun _ _ => 0) ⟨#[], wargs, []⟩).memory wargs := by
  have hw : (DataW.whole enc Tryz.prog ((laidWorld os).forCall (fun _ _ => 0) ⟨#[], wargs, []⟩).memory Tryz.f3.params.toList spec3.vars false wargs.toList 8).map (fun x => (x.1, x.2.1)) =
      some ([.nil, .lit (.string [])], []) := by kernel_rfl
  obtain ⟨⟨x1, x2, x3⟩, hx, hx1⟩ := Option.map_eq_some_iff.1 hw
  simp only [Prod.mk.injEq] at hx1
  obtain ⟨rfl, rfl⟩ := hx1
  exact OpenSpec.preRow_of_cond 8 hx (by kernel_rfl) (fun k hk => by cases hk) (by kernel_rfl) (laid_met os _)

theorem bool_reads {H : Type} {enc : TypeId × Value → H} {W : World} {base : Nat} {sp : Nat → Bool} {held : Bool} (b : Bool) : DataW.Trod enc Tryz.prog W base sp held 4 (.bool b) (.lit (.bool b)) [] := ⟨1, by simp [DataW.trod, Value.cells, Tryz.underlying4]⟩

theorem noHandles : (Rows.changeBackRow.laid.filter fun x => x.2.handleName?.isSome) = [] := by kernel_rfl

set_option maxHeartbeats 2000000 in
theorem back_lifted (os : Os) (started : os.Started) (H : Type) (enc : TypeId × Value → H) (F : Stop.Interp) :
    ReturnsInHanded {} Tryz.checked os 3 .any (spec3.preRow enc Tryz.prog Tryz.f3 Rows.changeBackRow.domain false Rows.changeBackRow.laid) ((spec3.at F).post enc Tryz.prog Tryz.f3 false true false false) := by
  refine returnsInHanded_of_row (C := Tryz.checked) (s := spec3) own started (by kernel_rfl) Tryz.func3
    (witness_row_atRef (enc := enc) (C := Tryz.checked) false (laidWorld os) wargs rfl (by kernel_rfl) (by kernel_rfl) (by kernel_rfl) (witness_row os enc)) ?_
  intro W base args ds gs before hval0 hW _ _ _ hL hsh _
  have hval : ∀ (j : Nat) t v, Tryz.f3.params[j]? = some t → args[j]? = some v → Value.okWide Tryz.prog W .any base t v := hval0
  have hW' := hW
  obtain ⟨p, q, hA0, hV0, rfl, _, _⟩ := hW
  have hA : DataW.TrodAll enc Tryz.prog W 0 (fun _ => true) true Tryz.f3.params.toList args.toList ds p := hA0
  rw [Tryz.params3] at hA hval
  obtain ⟨v0, v1, d0, d1, p0, p1, rfl, rfl, rfl, h0, h1⟩ := trodAll_two hA
  obtain ⟨rfl, rfl⟩ := trodVars_none hV0
  have h0k := h0
  have h1k := h1
  obtain ⟨u, l, hv, hu, hl⟩ := slice_open (hval 0 22 v0 rfl rfl) h0
  obtain ⟨s, rfl, hd1, _, _⟩ := Go.ChangeMaps.open_string Tryz.underlying9 (hval 1 9 v1 rfl rfl) h1
  clear hA0 hV0 hval0
  simp only [List.append_nil] at hW'
  have hlt : ∀ x ∈ p0 ++ p1, x.block < W.heap.size := fun x hx => by simpa using hW'.lt x hx
  obtain ⟨m, hm⟩ : ∃ m, W.cell? ⟨4, 0, none⟩ = some (.int .i64 m) := lays219.s1_3 W hsh
  have hL' : laidMet Tryz.prog Rows.changeBackRow.laid W := by
    unfold laidMetH at hL
    rw [noHandles] at hL
    exact hL
  have hsp := space_cells (Lib.laidMet.reads hL' (.tail _ (.tail _ (.head _))))
  refine (back_calls hsp hm (s := s) hv hu hl).mono ?_
  rintro e W' ⟨rfl, bel⟩
  have e1 : (spec3.at F).fn H ([d0, d1] ++ []) = { results := [.lit (.bool true)], args := [d0, d1] } := rfl
  refine ⟨_, rfl, _, _, _, [], p0 ++ p1, [], hW', ?_, ?_, ?_, bel.frame _, fun h => by cases h⟩
  · rw [e1]; exact trodAll_mk1 (bool_reads true)
  · rw [e1]; exact trodAll_mk2 (Below.trod laidOut (by kernel_rfl) (of_decide_eq_true (by kernel_rfl)) h0k bel (fun x hx => hlt x (by simp [hx]))) (Below.trod laidOut (by kernel_rfl) (of_decide_eq_true (by kernel_rfl)) h1k bel (fun x hx => hlt x (by simp [hx])))
  · rw [e1]; rfl

theorem back_holds : Rows.ChangeBackSaid :=
  OpenClaim.holds_of_cond 3 Tryz.f3 rfl rfl rfl rfl rfl rfl rfl ⟨rfl, rfl, rfl, rfl, rfl⟩ rfl rfl rfl rfl rfl (by kernel_rfl) Tryz.func3 closedFacts
    (of_decide_eq_true (by kernel_rfl)) (by unfold Func.isWrapper; rw [if_neg (of_decide_eq_false (by kernel_rfl))]; exact ⟨rfl, rfl⟩)
    (fun os started H enc _ F0 => by rw [OpenClaim.pre_eq_preRow]; exact back_lifted os started H enc F0)
end Go.E.Lives
