/- The arguments, opened. -/
import Derived.Test.YtmhhajebgolmlaaGreatDoorStage
import Derived.Test.YtmhhajebgolmlaaGreatDoorRows
import Derived.Deep.DeepHandedRow
import Derived.Deep.DeepLaidRun
import Derived.Deep.Slices
import Derived.Lib.LaidTab
import Derived.Lib.LaidU8
import Derived.Lib.SmallJoins
import Derived.ProofKit
import Derived.ChangeMaps5
import Derived.Carry
set_option linter.unusedSimpArgs false
set_option linter.unusedVariables false
namespace Go.E.Lives
open Go Go.E Go.Proofs Pk Go.ChangeShapes Go.WideShapes Go.RowKit
set_option maxRecDepth 100000

theorem bs_bytes (s : ByteArray) : Bytes (bs s) := by
  intro n hn
  simp only [bs, List.mem_map] at hn
  obtain ⟨x, _, rfl⟩ := hn
  exact x.toNat_lt

section
variable {H : Type} {enc : TypeId × Value → H} {W : World} {base : Nat} {sp : Nat → Bool} {held : Bool} {fuel : Nat} {ρ : Rn}

theorem one_string {t : TypeId} (ht : Tryz.prog.underlying t = some .string) {c : List Value} {x : DataW H × List MemPlace} {v : Value} (hc : c = [v]) (h : DataW.trod enc Tryz.prog W base sp held fuel t c = some x) : ∃ s : ByteArray, v = .string s := by
  obtain ⟨s, h1, _⟩ := DataW.trod_string ht h
  rw [hc] at h1
  simp only [List.cons.injEq, and_true] at h1
  exact ⟨s, h1⟩

/-- one change that lies there -/
theorem elem_open {cs : List Value} {x : DataW H × List MemPlace} (h : DataW.trod enc Tryz.prog W base sp held fuel 35 cs = some x) : ∃ c : Ch, ChBytes c ∧ VsRel ρ W cs (E.enc c) := by
  obtain ⟨y0, y1, y2, y3, n, _, hl, h0, h1, h2, h3⟩ := Go.Joins.trod_struct4 Tryz.underlying35 h
  rw [show Tryz.prog.cellsOf 35 = 5 by kernel_rfl] at hl
  match cs, hl with
  | [c0, c1, c2, c3, c4], _ =>
    simp only [show Tryz.prog.cellsOf 31 = 1 by kernel_rfl, show Tryz.prog.cellsOf 9 = 1 by kernel_rfl, show Tryz.prog.cellsOf 33 = 2 by kernel_rfl, List.drop, List.take] at h0 h1 h2 h3
    obtain ⟨k, e0, _, w0⟩ := DataW.trod_int Tryz.underlying31 h0
    obtain ⟨s1, rfl⟩ := one_string Tryz.underlying9 rfl h1
    obtain ⟨s2, rfl⟩ := one_string Tryz.underlying9 rfl h2
    obtain ⟨z0, z1, n', _, _, g0, g1⟩ := trod_struct2 Tryz.underlying33 h3
    simp only [show Tryz.prog.cellsOf 9 = 1 by kernel_rfl, List.drop, List.take] at g0 g1
    obtain ⟨s3, rfl⟩ := one_string Tryz.underlying9 rfl g0
    obtain ⟨s4, rfl⟩ := one_string Tryz.underlying9 rfl g1
    simp only [List.cons.injEq, and_true] at e0
    subst e0
    have hk : 0 ≤ k ∧ k < 256 := by
      simp only [Lit.wf, Bool.and_eq_true, decide_eq_true_eq] at w0
      have h1 : IntKind.u8.min = 0 := rfl
      have h2 : IntKind.u8.max = 255 := rfl
      rw [h1, h2] at w0
      omega
    obtain ⟨m, rfl⟩ : ∃ m : Nat, k = m := ⟨k.toNat, by omega⟩
    refine ⟨⟨m, bs s1, bs s2, bs s3, bs s4⟩, ⟨by show m < 256; omega, bs_bytes _, bs_bytes _, bs_bytes _, bs_bytes _⟩, ?_⟩
    exact .cons (.int _ _) (.cons (.str _) (.cons (.str _) (.cons (.str _) (.cons (.str _) .nil))))

theorem row_open {a : Addr} {n : Nat} {cs : List Value} (hn : 0 < n) (h : W.cells? base a n = some cs) : cs.length = n ∧ a.spot = none ∧ ∀ j (hj : j < cs.length), W.cell? ⟨a.block, a.off + j, none⟩ = some cs[j] := by
  unfold World.cells? at h
  split at h
  · have hl := mapM_some_length h
    rw [List.length_range] at hl
    have hg : ∀ j (hj : j < cs.length), W.cell? (a.add j) = some cs[j] := fun j hj => by
      have := mapM_some_get h j j (by rw [List.getElem?_range (by omega)])
      rw [this, List.getElem?_eq_getElem hj]
    have hs : a.spot = none := by
      have := World.cell?_spot (hg 0 (by omega))
      simpa [Addr.add] using this
    refine ⟨hl, hs, fun j hj => ?_⟩
    have := hg j hj
    obtain ⟨b, o, s⟩ := a
    simp only at hs
    subst hs
    by_cases h0 : j = 0
    · subst h0; simpa [Addr.add] using this
    · simpa [Addr.add, h0] using this
  · cases h

theorem crel_app {r : Nat} : ∀ (cs : List Value) (ts ts' : List V) (o : Nat), VsRel ρ W cs ts → (∀ j (hj : j < cs.length), ρ.S r (o + j) ∧ W.cell? ⟨r, o + j, none⟩ = some cs[j]) → CRel ρ W r (o + cs.length) ts' → CRel ρ W r o (ts ++ ts')
  | [], _, ts', o, h, _, h' => by
    cases h
    simpa using h'
  | v :: cs, _, ts', o, h, hc, h' => by
    cases h with
    | cons h1 h2 =>
      have h0 := hc 0 (by simp)
      simp only [Nat.add_zero, List.getElem_cons_zero] at h0
      refine .cons h0.1 h0.2 h1 (crel_app cs _ ts' (o + 1) h2 (fun j hj => ?_) ?_)
      · have := hc (j + 1) (by simp; omega)
        simp only [List.getElem_cons_succ] at this
        rw [show o + 1 + j = o + (j + 1) by omega]
        exact this
      · rw [show o + 1 + cs.length = o + (v :: cs).length by simp; omega]
        exact h'

abbrev ρ0 (W : World) : Rn := bare fun r _ => r < W.heap.size

theorem cell_block {w : World} {a : Addr} {v : Value} (h : w.cell? a = some v) : a.block < w.heap.size := by
  by_cases hb : a.block < w.heap.size
  · exact hb
  · simp [World.cell?, Array.getElem?_eq_none (show w.heap.size ≤ a.block by omega)] at h

theorem list_open {a : Addr} : ∀ (n k : Nat), (∀ i, k ≤ i → i < k + n → ∃ cs fuel x, W.cells? base (a.add (i * 5)) 5 = some cs ∧ DataW.trod enc Tryz.prog W base sp held fuel 35 cs = some x) →
    ∃ l : List Ch, l.length = n ∧ (∀ c ∈ l, ChBytes c) ∧ CRel (ρ0 W) W a.block (a.off + k * 5) (encs l)
  | 0, k, _ => ⟨[], rfl, (fun _ h => by cases h), .nil _ _⟩
  | n + 1, k, h => by
    obtain ⟨l, h1, h2, h3⟩ := list_open n (k + 1) (fun i hi hi' => h i (by omega) (by omega))
    obtain ⟨cs, fuel, x, hc, hx⟩ := h k (Nat.le_refl _) (by omega)
    obtain ⟨c, hb, hv⟩ := elem_open (ρ := ρ0 W) hx
    obtain ⟨hl, _, hg⟩ := row_open (by omega) hc
    have hblk : (a.add (k * 5)).block = a.block := by unfold Addr.add; split <;> rfl
    have hoff : (a.add (k * 5)).off = a.off + k * 5 := by unfold Addr.add; split <;> simp_all
    rw [hblk, hoff] at hg
    refine ⟨c :: l, by simp [h1], fun d hd => (List.mem_cons.1 hd).elim (fun e => e ▸ hb) (h2 d), ?_⟩
    refine crel_app cs (E.enc c) (encs l) _ hv (fun j hj => ⟨cell_block (a := ⟨a.block, a.off + k * 5 + j, none⟩) (hg j hj), hg j hj⟩) ?_
    rw [hl, show a.off + k * 5 + 5 = a.off + (k + 1) * 5 by omega]
    exact h3

/-- the first argument -/
theorem slice_open {v : Value} {d : DataW H} {p : List MemPlace} (hv : Value.okWide Tryz.prog W .any base 22 v) (h : DataW.Trod enc Tryz.prog W 0 sp held 22 v d p) :
    ∃ (u : V) (l : List Ch), VRel (ρ0 W) W v u ∧ SlOf u l ∧ ∀ c ∈ l, ChBytes c := by
  obtain ⟨a0, len, cap, rfl⟩ := okWide_slice Tryz.underlying22 hv
  obtain ⟨fuel, hf⟩ := h
  rcases Go.Deep.open_slice Tryz.underlying22 hf with ⟨hcs, _⟩ | ⟨a, len', cap', m, n, D, Pl, hcs, _, hle, _, hm, _, hel⟩
  · simp [Value.cells] at hcs
    obtain ⟨rfl, rfl, rfl⟩ := hcs
    exact ⟨.snil, [], .snil, .nil, (fun _ h => by cases h)⟩
  · simp [Value.cells] at hcs
    obtain ⟨rfl, rfl, rfl⟩ := hcs
    rw [show Tryz.prog.cellsOf 35 = 5 by kernel_rfl] at hel
    have hlm : len ≤ m := by rw [hm]; split <;> omega
    obtain ⟨l, h1, h2, h3⟩ := list_open (a := a) len 0 (fun i _ hi => by
      obtain ⟨cs', k1, k2⟩ := hel i (by omega)
      exact ⟨cs', _, _, k1, k2⟩)
    refine ⟨slV l false, l, ?_, .some l false, h2⟩
    simp only [Nat.zero_mul, Nat.add_zero] at h3
    rw [slV, h1]
    refine .simm (fun hne => ?_) h3 (fun h => by cases h) hle
    have h0 : 0 < len := by
      cases l with
      | nil => exact absurd rfl hne
      | cons => simp at h1; omega
    obtain ⟨cs', k1, _⟩ := hel 0 (by omega)
    have := (row_open (by omega) k1).2.1
    simpa [Addr.add] using this
end
end Go.E.Lives
