/- The call of ChangeBack, in the model's words. -/
import Derived.Test.YtmhhajebgolmlaaGreatDoorRowA
import Derived.Test.YtmhhajebgolmlaaGreatDoorLaid
import Derived.Deep.DeepWitnessRowRef
import Derived.JoinedCond
import Derived.Lib.Space
set_option linter.unusedSimpArgs false
set_option linter.unusedVariables false
namespace Go.E.Lives
open Go Go.E Go.Proofs Go.Proofs.YtmhhajebgolmlaaGreatDoor Pk Go.ChangeShapes Go.WideShapes Go.RowKit
set_option maxRecDepth 100000

theorem own : ownKnob Tryz.prog.godebug = none := by kernel_rfl

/-! ### The package's variables -/
theorem crel_ints {W : World} {r : Nat} (k : IntKind) : ∀ (zs : List Int) (o : Nat), (∀ i (hi : i < zs.length), W.cell? ⟨r, o + i, none⟩ = some (.int k zs[i])) → CRel (ρ0 W) W r o (zs.map (V.int k))
  | [], o, _ => .nil r o
  | z :: zs, o, h => by
    have h0 := h 0 (by simp)
    simp only [Nat.add_zero, List.getElem_cons_zero] at h0
    refine .cons (cell_block (a := ⟨r, o, none⟩) h0) h0 (.int k z) (crel_ints k zs (o + 1) fun i hi => ?_)
    have := h (i + 1) (by simp; omega)
    simp only [List.getElem_cons_succ] at this
    rw [show o + 1 + i = o + (i + 1) by omega]
    exact this

theorem gT : Tryz.prog.globalNamed "strings.asciiSpace" = some 2 := by kernel_rfl
theorem gTType : (Tryz.prog.globals[2]?).map (·.type) = some 302 := by kernel_rfl
theorem spaces : Rows.laid_strings_asciiSpace = Lib.tabData (H := Unit) .u8 Lib.asciiSpaceTab := by kernel_rfl
theorem spaces' : asciiSpace = Lib.asciiSpaceTab.map (V.int .u8) := by kernel_rfl

theorem space_cells {W : World} (h : Lib.VarReads Tryz.prog W "strings.asciiSpace" Rows.laid_strings_asciiSpace) : CRel (ρ0 W) W 2 0 asciiSpace := by
  obtain ⟨g, t, cs, fuel, p, hg, ht, hvar, hd⟩ := h
  obtain rfl := Option.some.inj (gT.symm.trans hg)
  obtain rfl := Option.some.inj (gTType.symm.trans ht)
  rw [spaces] at hd
  have e := Lib.cells_of_tab (show Tryz.prog.underlying 302 = some (.array 256 5) by kernel_rfl) (show Tryz.prog.underlying 5 = some (.int .u8) by kernel_rfl) (by kernel_rfl) (by kernel_rfl) hd
  have htab : Lib.TabIs Tryz.prog W "strings.asciiSpace" .u8 Lib.asciiSpaceTab := by
    unfold Lib.TabIs
    rw [hvar, ← e]
  rw [spaces']
  refine crel_ints .u8 _ 0 fun i hi => ?_
  have := htab.cell gT i hi
  rw [Nat.zero_add, this]
  simp [List.getD, hi]

theorem globs {W : World} {m : Int} (hs : CRel (ρ0 W) W 2 0 asciiSpace) (hm : W.cell? ⟨4, 0, none⟩ = some (.int .i64 m)) : ∀ g, CRel (ρ0 W) W g 0 (glob m g) := fun g => by
  unfold glob
  by_cases h2 : g = 2
  · subst h2; exact hs
  · by_cases h4 : g = 4
    · subst h4; exact .cons (cell_block (a := ⟨4, 0, none⟩) hm) hm (.int _ _) (.nil _ _)
    · have e2 : Nat.beq g 2 = false := by rw [nbeq]; exact decide_eq_false h2
      have e4 : Nat.beq g 4 = false := by rw [nbeq]; exact decide_eq_false h4
      rw [e2, e4]
      exact .nil _ _

/-! ### The call -/
theorem back_calls {W : World} {m : Int} (hs : CRel (ρ0 W) W 2 0 asciiSpace) (hm : W.cell? ⟨4, 0, none⟩ = some (.int .i64 m)) {v : Value} {s : ByteArray} {u : V} {l : List Ch} (hv : VRel (ρ0 W) W v u) (hu : SlOf u l) (hl : ∀ c ∈ l, ChBytes c) :
    Calls Tryz.prog 3 #[v, .string s] W fun e W' => e = .returned (.bool true) ∧ Below W.heap.size W W' := by
  have h := back_fact m hu hl (bs_bytes s) (S := fun r _ => r < W.heap.size) (w := W) (vargs := #[v, .string s]) (fun _ _ h => h) (globs hs hm) (.cons hv (.cons (.str s) .nil))
  refine (callsIn_wide.1 h).mono fun e W' ⟨val, S', he, out, hval⟩ => ?_
  cases hval
  exact ⟨he, ⟨out.world.1, out.world.2.2, out.world.2.1, out.grows, out.old⟩⟩
end Go.E.Lives
