/- The program's tie. -/
import Derived.Test.YtmhhajebgolmlaaGreatDoorRows
import Derived.LaidByTextLater
import Derived.SevenTiedAt
namespace Go.Proofs.YtmhhajebgolmlaaGreatDoor
open Go
abbrev laidL : List (String × DataW Unit) := [("unicode/utf8.acceptRanges", Rows.laid_unicode_utf8_acceptRanges), ("strings.asciiSpace", Rows.laid_strings_asciiSpace), ("unicode.White_Space", Rows.laid_unicode_White_Space), ("strconv.ErrSyntax", Rows.laid_strconv_ErrSyntax), ("strconv.ErrRange", Rows.laid_strconv_ErrRange), ("internal/strconv.uint64pow10", Rows.laid_internal_strconv_uint64pow10), ("math/bits.deBruijn32tab", Rows.laid_math_bits_deBruijn32tab), ("math/bits.deBruijn64tab", Rows.laid_math_bits_deBruijn64tab)]
-- places, each met once: a quick test
def placeNo : MemPlace → Option Nat
  | .cell b o => bif Nat.blt o 1024 then some (b * 1024 + o) else none
  | .map _ => none
def onceIn : Nat → List MemPlace → Bool
  | _, [] => true
  | s, p :: l => match placeNo p with
    | some c => bif Nat.testBit s c then false else onceIn (Nat.lor s (Nat.shiftLeft 1 c)) l
    | none => false
theorem onceIn_spec : ∀ (l : List MemPlace) (s : Nat), onceIn s l = true → l.Nodup ∧ ∀ p ∈ l, ∃ c, placeNo p = some c ∧ s.testBit c = false
  | [], _, _ => ⟨by simp, by simp⟩
  | p :: l, s, h => by
    simp only [onceIn] at h
    split at h
    · rename_i c hc
      cases hs : s.testBit c with
      | true => rw [hs] at h; cases h
      | false =>
        rw [hs] at h
        obtain ⟨h1, h2⟩ := onceIn_spec l _ h
        have hor : ∀ d, (Nat.lor s (Nat.shiftLeft 1 c)).testBit d = (s.testBit d || decide (c = d)) := by
          intro d
          show (s ||| 1 <<< c).testBit d = _
          rw [Nat.testBit_or, Nat.shiftLeft_eq, Nat.one_mul, Nat.testBit_two_pow]
        refine ⟨List.nodup_cons.2 ⟨fun hm => ?_, h1⟩, fun q hq => ?_⟩
        · obtain ⟨d, hd, hb⟩ := h2 p hm
          rw [hc] at hd
          cases hd
          rw [hor] at hb
          simp at hb
        · rcases List.mem_cons.1 hq with rfl | hq
          · exact ⟨c, hc, hs⟩
          · obtain ⟨d, hd, hb⟩ := h2 q hq
            rw [hor] at hb
            simp only [Bool.or_eq_false_iff] at hb
            exact ⟨d, hd, hb.1⟩
    · cases h
theorem tie_w : Tryz.prog.worded (varsWordLater true) = true := by kernel_rfl
theorem tie_w' : Tryz.prog.worded (varsWordLater !true) = false := by kernel_rfl
theorem tie_root : Tryz.prog.worded rootWordLater = true := by kernel_rfl
theorem tie_k : laidL.map (fun x => Tryz.prog.kindOfLater x.1) = [LaidKind.data, .data, .listed, .sentinel, .sentinel, .data, .data, .data].map some := by kernel_rfl
theorem tie_g : (Tryz.prog.funcNamed "gosem.cut.vars").isSome = true := by kernel_rfl
theorem tie_n : varsNamedLaterB Tryz.prog (varsId Tryz.prog) laidL = true := by kernel_rfl
theorem tie_d : ∀ os tape, varsDone Tryz.prog 400 (varsId Tryz.prog) os tape = true := fun _ _ => by kernel_rfl
theorem tie_1 : ∀ os tape, (DataW.laidRun Tryz.prog (varsWorld Tryz.prog 400 (varsId Tryz.prog) os tape).memory 8 (laidL.map (·.1))).map (·.1) = some laidL := fun _ _ => by kernel_rfl
theorem tie_2a : ∀ os tape, (DataW.laidRun Tryz.prog (varsWorld Tryz.prog 400 (varsId Tryz.prog) os tape).memory 8 (laidL.map (·.1))).map (fun x => onceIn 0 x.2) = some true := fun _ _ => by kernel_rfl
theorem tie_2b : ∀ os tape, (DataW.laidRun Tryz.prog (varsWorld Tryz.prog 400 (varsId Tryz.prog) os tape).memory 8 (laidL.map (·.1))).map (fun x => laidRowsB Tryz.prog (varsWorld Tryz.prog 400 (varsId Tryz.prog) os tape).memory x.2) = some true := fun _ _ => by kernel_rfl
theorem tie_2 : ∀ os tape, (DataW.laidRun Tryz.prog (varsWorld Tryz.prog 400 (varsId Tryz.prog) os tape).memory 8 (laidL.map (·.1))).map (fun x => decide x.2.Nodup && laidRowsB Tryz.prog (varsWorld Tryz.prog 400 (varsId Tryz.prog) os tape).memory x.2) = some true := by
  intro os tape
  have ha := tie_2a os tape
  have hb := tie_2b os tape
  obtain ⟨x, hx, h1⟩ := Option.map_eq_some_iff.1 ha
  rw [hx] at hb ⊢
  simp only [Option.map_some, Option.some.injEq] at hb ⊢
  rw [hb, decide_eq_true (onceIn_spec _ _ h1).1]
  rfl
theorem tie_p : (laidL.all fun x => x.2.handleName?.isNone) = true := by kernel_rfl
theorem tie2 : Tryz.prog.laidByTextLater laidL [.data, .data, .listed, .sentinel, .sentinel, .data, .data, .data] true :=
  Program.laidByTextLater_by_run 400 8 tie_w tie_w' tie_root tie_k tie_g tie_n tie_d tie_1 tie_2 tie_p
end Go.Proofs.YtmhhajebgolmlaaGreatDoor
