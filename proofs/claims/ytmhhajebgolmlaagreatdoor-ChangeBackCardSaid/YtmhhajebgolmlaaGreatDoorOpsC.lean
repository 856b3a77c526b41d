/- The plain machine's operations, held against the model's, third part. -/
import Derived.Test.YtmhhajebgolmlaaGreatDoorOpsB
import Derived.Lib.AppendZeros
import Derived.Lib.UnsafeStr
import Derived.Laws.Tables
import Derived.Laws.MakeOwn
import Derived.Lib.ConvBytes
set_option linter.unusedSimpArgs false
set_option linter.unusedVariables false
namespace Go.E
variable {P : Program} {X : Nat → Prop} {ρ : Rn} {h : H} {w : World}

theorem sim_append (I : Inv P X ρ h w) {t tx T e : TypeId} {i : TypeInfo} {z : Value} (ht : P.underlying t = some (.slice e)) (hi : P.info? e = some i) (hz : i.zero = some z) (hzs : z.cells.size = i.size) {k : Nat} {news : List Value} {new : List V} {x y : Value} {vx : V}
    (hX : ∀ b, X b) (hx : VRel ρ w x vx) (hs : Src P i.size tx y k news w) (hn : VsRel ρ w news new) :
    SimS P X ρ h w ((Builtin.append_ #[t, tx] T #[x, y]).run P w) (appendE h e i.size i.bytes new k vx) := by
  unfold appendE
  simp only [nbeq, nble, nblt, Bool.cond_eq_ite, Bool.or_eq_true, decide_eq_true_eq, Bool.not_eq_true']
  split
  · trivial
  rename_i hc
  simp only [not_or, Bool.not_eq_false] at hc
  obtain ⟨⟨h0, hb⟩, hok⟩ := hc
  have hnl : new.length = k * i.size := hn.length.symm.trans hs.newsLen
  cases hx <;> try trivial
  case snil =>
    simp only
    split
    · rename_i hk
      subst hk
      exact none_sim I ht hi hs (Nat.le_refl _) .snil
    · rename_i hk
      split
      · rename_i hr
        have := grow_sim I (T := T) (base := none) (len := 0) (c := 0) (olds := []) (old := []) ht hi hz hzs (by rfl) .nil hs hn (by omega) hb (by simpa using hr) (by simpa using hnl)
        simpa using this
      · trivial
  case simm len c ex a cs g1 g2 g3 g4 =>
    simp only
    split
    · rename_i hk
      subst hk
      exact none_sim I ht hi hs g4 (.simm g1 g2 g3 g4)
    · rename_i hk
      split
      · rename_i hr
        simp only [Bool.and_eq_true] at hr
        cases hcut : cut (len * i.size) cs with
        | none => trivial
        | some old =>
          simp only
          have hold : sliceCells h i.size (.simm cs len ex) = some old := hcut
          obtain ⟨base, len', c', olds, e1, e2, hrun, hrel⟩ := olds_of I (.simm g1 g2 g3 g4 : VRel ρ w (.slice (some a) len c) (.simm cs len ex)) trivial hold (fun _ _ _ _ _ _ _ hh => by cases hh) h0
          cases e1
          have hol : old.length = len * i.size := by
            obtain ⟨rfl, hh⟩ := cut_eq _ _ _ hcut
            simp [hh]
          have hcl := g3 hr.1
          exact grow_sim I ht hi hz hzs hrun hrel hs hn (by omega) hb hr.2 (by rw [List.length_append, hol, hnl, Nat.add_mul])
      · trivial
  case sl b off len cap sz ver c r ex a g1 g2 g3 g4 g5 g6 =>
    simp only
    split
    · trivial
    rename_i hsz
    simp only [decide_eq_false_iff_not, Decidable.not_not] at hsz
    subst hsz
    split
    · rename_i hk
      subst hk
      exact none_sim I ht hi hs (by omega) (.sl g1 g2 g3 g4 g5 g6)
    · rename_i hk
      have hroomS : ∀ {len' cap' c' : Nat} {ver' : Nat} {w' : World} {ρ' : Rn}, True := fun {_ _ _ _ _ _} => trivial
      split
      · rename_i hle
        cases hwr : writeAt h b (off + len * i.size) ver new with
        | none => trivial
        | some h' =>
          simp only
          obtain rfl := g2.resolve_left (by omega)
          obtain ⟨w', hrun, I', p⟩ := room_sim I (T := T) ht hi (hX b) g1 hs hn (by omega : len + k ≤ c) hwr
          have K := p.keeps
          refine ⟨_, w', ρ, hrun, ?_, I', p⟩
          obtain ⟨cs, e', f, hw, hle'⟩ := g6
          obtain ⟨c2, f2, hw2, hs2⟩ := K.shape hw
          exact .sl g1 (.inr rfl) g3 g4 hle ⟨c2, e', f2, hw2, by omega⟩
      · rename_i hle
        split
        · trivial
        rename_i hr
        simp only [Bool.not_eq_false] at hr
        split
        · rename_i hex
          subst hex
          cases hold : sliceCells h i.size (.sl b off len cap i.size ver true) with
          | none => trivial
          | some old =>
            simp only
            obtain ⟨base, len', c', olds, e1, e2, hrun, hrel⟩ := olds_of I (.sl g1 g2 g3 g4 g5 g6 : VRel ρ w (.slice (some a) len c) (.sl b off len cap i.size ver true)) trivial hold (fun b' _ _ _ _ _ _ _ => hX b') h0
            cases e1
            have hcl := g3 rfl
            have hol : old.length = len * i.size := by
              rcases sliceCells_rel I (.sl g1 g2 g3 g4 g5 g6 : VRel ρ w (.slice (some a) len c) (.sl b off len cap i.size ver true)) hold (fun b' _ _ _ _ _ _ _ => hX b') h0 with ⟨_, hh, _⟩ | ⟨hh, _⟩ | ⟨_, l2, _, _, hh, _, h2, _⟩
              · cases hh
              · cases hh
              · cases hh; exact h2
            exact grow_sim I ht hi hz hzs hrun hrel hs hn (by omega) hb hr (by rw [List.length_append, hol, hnl, Nat.add_mul])
        · rename_i hex
          split
          · rename_i cs e' kind frz hg
            split
            · rename_i hcond
              simp only [Bool.and_eq_true, decide_eq_true_eq] at hcond
              obtain ⟨⟨⟨⟨⟨⟨hoff, hkd⟩, rfl⟩, hcap⟩, hfrz⟩, rfl⟩, _⟩ := hcond
              have hX' := hX b
              have hoc : off + len * i.size ≤ cs.length := by
                have : len * i.size ≤ cap * i.size := Nat.mul_le_mul_right _ g5
                omega
              have hgt : cs.length < off + len * i.size + new.length := by
                rw [hnl]
                have h1 : cap * i.size < (len + k) * i.size := Nat.mul_lt_mul_of_pos_right (by omega) (by omega)
                rw [Nat.add_mul] at h1
                omega
              have hlen' : (cs.take (off + len * i.size) ++ new).length = off + (len + k) * i.size := by
                rw [List.length_append, List.length_take, Nat.min_eq_left hoc, hnl, Nat.add_mul]
                omega
              by_cases hfit : len + k ≤ c
              · -- there is room in its row
                obtain rfl := g2.resolve_left (by omega)
                obtain ⟨cs2, e2, f2, hw2, hle2⟩ := g6
                obtain ⟨w', ρ', hst, hL', I', p⟩ := grow_put I hX' hg hkd g1 hfrz hoc hgt hn hok (fun c' e' f' hh => by
                  rw [hw2] at hh
                  cases hh
                  have : (len + k) * i.size ≤ c * i.size := Nat.mul_le_mul_right _ hfit
                  rw [Nat.add_mul] at this
                  rw [hnl]
                  omega)
                refine ⟨.slice (some ⟨r, off, none⟩) (len + k) c, w', ρ', ?_, ?_, I', p⟩
                · rcases hs.kind with ⟨e', hk⟩ | hk <;> simp [Builtin.append_, run_underlying ht, run_underlying hk, sizeOf, typeInfo, hi, hs.len, hfit, hs.cells, addr_add, hst]
                · obtain ⟨c3, f3, hw3, hs3⟩ := p.keeps.shape hw2
                  exact .sl hL' (.inr rfl) (fun h => by cases h) hfit (Nat.le_refl _) ⟨_, _, _, hw3, by omega⟩
              · -- a new row
                subst hoff
                have hold : sliceCells h i.size (.sl b 0 len cap i.size cs.length ex) = some (cs.take (len * i.size)) := by
                  have hc1 : cut (len * i.size) cs = some (cs.take (len * i.size)) := by
                    have : ∀ (n : Nat) (l : List V), n ≤ l.length → cut n l = some (l.take n) := by
                      intro n
                      induction n with
                      | zero => intro l _; simp [cut]
                      | succ n ih =>
                        intro l hl
                        cases l with
                        | nil => simp at hl
                        | cons v l => simp only [cut, ih l (by simpa using hl), Option.map_some, List.take_succ_cons]
                    exact this _ _ (by omega)
                  simp [sliceCells, readAt, hg, hc1]
                obtain ⟨base, len', c', olds, e1, e2, hrun, hrel⟩ := olds_of I (.sl g1 g2 g3 g4 g5 g6 : VRel ρ w (.slice (some a) len c) (.sl b 0 len cap i.size cs.length ex)) trivial hold (fun b' _ _ _ _ _ _ _ => hX b') h0
                cases e1
                have hru := run_append_grow_src (P := P) w t tx T e i z ht hi hz (some a) len c olds hrun y k news hs (by omega) (roomy_63 hb hr) (room_fits (by omega) hr)
                have hge := grownCap_ge w (len + k) c e
                simp only [Nat.zero_add] at hoc hgt hlen' ⊢
                have hol : (olds ++ news).length = (len + k) * i.size := (hrel.append hn).length.trans hlen'
                have hrow : (w.drew.alloc (.cells ((olds ++ news).toArray ++ Builtin.zeroCells z.cells (grownCap w (len + k) c e - (len + k))) e)).heap[w.heap.size]? = some (.cells ((olds ++ news).toArray ++ Builtin.zeroCells z.cells (grownCap w (len + k) c e - (len + k))) e) := by
                  rw [alloc_heap]; exact if_pos rfl
                have K : Keeps ρ w ρ (w.drew.alloc (.cells ((olds ++ news).toArray ++ Builtin.zeroCells z.cells (grownCap w (len + k) c e - (len + k))) e)) :=
                  (VRel.heap (w := w) (w' := w.drew) rfl).trans (Keeps.alloc ρ w.drew _ ρ (fun h => h) (fun h => h))
                have hsz : ((olds ++ news).toArray ++ Builtin.zeroCells z.cells (grownCap w (len + k) c e - (len + k))).size = grownCap w (len + k) c e * i.size := by
                  have h2 : (len + k) * i.size + (grownCap w (len + k) c e - (len + k)) * i.size = grownCap w (len + k) c e * i.size := by rw [← Nat.add_mul]; congr 1; omega
                  simp only [Array.size_append, List.size_toArray, size_zeroCells, hzs, hol]
                  exact h2
                have hs1 : (w.drew.alloc (.cells ((olds ++ news).toArray ++ Builtin.zeroCells z.cells (grownCap w (len + k) c e - (len + k))) e)).heap.size = w.heap.size + 1 := World.size_alloc _ _
                have hd : w.drew.heap.size = w.heap.size := rfl
                have fin := I.grow (blk' := .cells (cs.take (len * i.size) ++ new) e kind frz) (r' := w.heap.size) (w' := w.drew.alloc (.cells ((olds ++ news).toArray ++ Builtin.zeroCells z.cells (grownCap w (len + k) c e - (len + k))) e)) hX' hg g1
                  (by simp only [ver, hlen']; rw [Nat.add_mul]; omega) (.inr (Nat.le_refl _)) (by rw [hs1]; omega) (by rw [hs1]; omega) (fun r₂ hr₂ _ => by rw [alloc_heap, if_neg (by omega)]; rfl) K ⟨rfl, rfl, rfl⟩
                  (fun o hS => absurd (I.slt hS) (by omega))
                  (fun ρ' _ K' => by
                    refine ⟨_, _, hrow, by rw [hsz, hlen']; exact Nat.mul_le_mul_right _ hge, fun h0 => by omega, ?_, .inl rfl⟩
                    have : ((olds ++ news).toArray ++ Builtin.zeroCells z.cells (grownCap w (len + k) c e - (len + k))).toList.take (cs.take (len * i.size) ++ new).length = olds ++ news := by
                      rw [hlen', Array.toList_append]
                      exact List.take_left' hol
                    rw [this]
                    exact (hrel.append hn).keep K')
                refine ⟨_, _, _, hru, ?_, fin.1, fin.2⟩
                exact .sl (Rn.at_self _ _ _ _) (.inr rfl) (fun h => absurd h (by simp)) hge (Nat.le_refl _) ⟨_, _, _, hrow, by rw [hsz]; omega⟩
            · trivial
          · trivial

end Go.E

namespace Go.E
variable {P : Program} {X : Nat → Prop} {ρ : Rn} {h : H} {w : World}

/-! ### Rows of zeros -/
theorem zeroRow_toList (z : Array Value) : ∀ n, ((List.range (n * z.size)).map fun i => z[i % z.size]!) = (List.replicate n z.toList).flatten
  | 0 => by simp
  | n + 1 => by
    have ih := zeroRow_toList z n
    rw [List.replicate_succ, List.flatten_cons, ← ih, show (n + 1) * z.size = z.size + n * z.size by rw [Nat.add_mul]; omega, List.range_add, List.map_append, List.map_map]
    congr 1
    · apply List.ext_getElem
      · simp
      · intro i h1 h2
        simp only [List.getElem_map, List.getElem_range]
        simp only [List.length_map, List.length_range] at h1
        rw [Nat.mod_eq_of_lt h1]
        simp [h1]
    · refine List.map_congr_left fun i _ => ?_
      simp

theorem VsRel.flatten {vs : List Value} {ts : List V} (h : VsRel ρ w vs ts) : ∀ n, VsRel ρ w (List.replicate n vs).flatten (List.replicate n ts).flatten
  | 0 => .nil
  | n + 1 => by
    rw [List.replicate_succ, List.replicate_succ, List.flatten_cons, List.flatten_cons]
    exact h.append (VsRel.flatten h n)

theorem zeroCells_rel (z : Value) (n : Nat) : VsRel ρ w (Builtin.zeroCells z.cells n).toList (repl n (ofValue z).cells) := by
  have : (Builtin.zeroCells z.cells n).toList = (List.replicate n z.cells.toList).flatten := by
    rw [← zeroRow_toList]
    simp [Builtin.zeroCells]
  rw [this]
  exact (zero_cells_rel ρ w z).flatten n

/-! ### append of zeros to nil -/
theorem sim_zeros (I : Inv P X ρ h w) {t tn T e : TypeId} {i : TypeInfo} {z : Value} {kn k : IntKind} (ht : P.underlying t = some (.slice e)) (htn : P.underlying tn = some (.int kn)) (hi : P.info? e = some i) (hz : i.zero = some z) (hzs : z.cells.size = i.size) {n : Nat} (h0 : i.size ≠ 0) (hb : i.bytes ≠ 0) (hn : n ≠ 0) (hr : roomy n i.bytes = true) :
    SimS P X ρ h w ((Builtin.append_ #[t, tn] T #[.slice none 0 0, .int k (n : Int)]).run P w) (.ok (.sl h.size 0 n n i.size (repl n (ofValue z).cells).length false) (h.push (.cells (repl n (ofValue z).cells) e 1 0))) := by
  have hr' : n * i.bytes ≤ 281474976710656 := by
    simp only [roomy, nble, decide_eq_true_eq] at hr
    omega
  have hrun := Lib.run_append_nil_zeros (P := P) w t tn T e i z k kn ht htn hi hz n (by omega) (by omega) (roomy_63 hb hr) hr'
  have hv := zeroCells_rel (ρ := ρ) (w := w) z n
  obtain ⟨ρ', hL, I', p⟩ := push_row (e := e) (rest := Builtin.zeroCells z.cells (grownCap w n 0 e - n)) I hv
  have hge := grownCap_ge w n 0 e
  refine ⟨.slice (some ⟨w.heap.size, 0, none⟩) n (grownCap w n 0 e), _, ρ', ?_, ?_, I', p⟩
  · rw [hrun]
  · refine .sl (r := w.heap.size) hL (.inr rfl) (fun h => by cases h) hge (Nat.le_refl _) ⟨_, _, _, by rw [alloc_heap]; exact if_pos rfl, ?_⟩
    have h2 : n * i.size + (grownCap w n 0 e - n) * i.size = grownCap w n 0 e * i.size := by rw [← Nat.add_mul]; congr 1; omega
    simp only [Array.size_append, List.size_toArray, Array.length_toList, size_zeroCells, hzs, Nat.zero_add]
    omega

/-! ### copy, clear -/
theorem byteCells_take (s : ByteArray) (n : Nat) (w' : World) : (Builtin.firstCells 1 n (.string s)).run P w' = .ok ((byteCells s).take n).toArray w' := by
  simp [Builtin.firstCells, byteCells]
  apply Array.ext'
  simp

theorem sim_copy (I : Inv P X ρ h w) {t u T e : TypeId} {size : Nat} {x y : Value} {tx ty : V} (ht : P.underlying t = some (.slice e)) (hsz : size? P e = some size) (h0 : size ≠ 0) (hX : ∀ b, X b) (hx : VRel ρ w x tx) (hy : VRel ρ w y ty) :
    SimS P X ρ h w ((Builtin.copy_ #[t, u] T #[x, y]).run P w)
      (match (generalizing := false) tx, lenV ty with
      | .snil, some _ => .ok (.int .i64 0) h
      | .sl b off len _ sz ver _, some k =>
        bif !(Nat.beq sz size) then .fail else
        let n := min k len
        (match (generalizing := false) (sliceCells h size ty).bind (cut (n * size)) with
        | some vs => bif Nat.beq n 0 then .ok (.int .i64 0) h else (match (generalizing := false) writeAt h b off ver vs with | some h => .ok (.int .i64 n) h | none => .fail)
        | none => .fail)
      | _, _ => .fail) := by
  cases hlen : lenV ty with
  | none => cases tx <;> trivial
  | some k =>
    have hlenOf : ∀ w' : World, (Builtin.lenOf y).run P w' = .ok k w' := by
      intro w'
      cases hy <;> simp only [lenV, Option.some.injEq, reduceCtorEq] at hlen <;> subst hlen <;> simp [Builtin.lenOf, bs_length]
    have hfirst0 : (Builtin.firstCells size 0 y).run P w = .ok #[] w := by
      cases hy <;> simp only [lenV, Option.some.injEq, reduceCtorEq] at hlen
      · simp [Builtin.firstCells]
      · rfl
      · rename_i a _ _ _ _ _ _
        exact run_firstCells_some w size 0 a 0 0 [] (by simp) (by simp)
      · rename_i a _ _ _ _ _
        exact run_firstCells_some w size 0 a 0 0 [] (by simp) (by simp)
    cases hx <;> try trivial
    · refine .pure I (v := .int .i64 0) ?_ (.int _ _)
      have : Nat.min k 0 = 0 := Nat.min_zero k
      simp [Builtin.copy_, run_underlying ht, hlenOf, size?_run hsz, hfirst0, goInt]
    · rename_i b off len cap sz ver c r ex a g1 g2 g3 g4 g5 g6
      simp only [nbeq, Bool.cond_eq_ite, Bool.not_eq_true', decide_eq_false_iff_not, decide_eq_true_eq]
      split
      · trivial
      rename_i hc
      simp only [Decidable.not_not] at hc
      subst hc
      cases hvs : (sliceCells h sz ty).bind (cut (min k len * sz)) with
      | none => trivial
      | some vs =>
        simp only
        obtain ⟨cs, hcs, hcut⟩ := Option.bind_eq_some_iff.1 hvs
        obtain ⟨rfl, hle⟩ := cut_eq _ _ _ hcut
        split
        · rename_i hn0
          refine .pure I (v := .int .i64 0) ?_ (.int _ _)
          have : Nat.min k len = 0 := hn0
          simp [Builtin.copy_, run_underlying ht, hlenOf, size?_run hsz, this, hfirst0, goInt, storeCells]
        · rename_i hn0
          have hxs : ∃ xs : List Value, (Builtin.firstCells sz (min k len) y).run P w = .ok xs.toArray w ∧ VsRel ρ w xs (cs.take (min k len * sz)) := by
            rcases sliceCells_rel I hy hcs (fun b' _ _ _ _ _ _ _ => hX b') h0 with ⟨s, rfl, rfl, rfl, rfl⟩ | ⟨rfl, rfl, rfl⟩ | ⟨a', len', c', vs', rfl, h1, h2, h3, h4, h5⟩
            · exact ⟨(byteCells s).take (min k len), byteCells_take s _ w, by rw [Nat.mul_one]; exact (byteCells_rel s).take _⟩
            · cases hlen
              simp at hn0
            · rw [h1] at hlen
              cases hlen
              have hl : vs'.length = k * sz := h3.length.trans h2
              have hkn : k ≠ 0 := by omega
              obtain ⟨ab, ao, as⟩ := a'
              obtain rfl := h4 hkn
              have hmn : min k len * sz ≤ k * sz := Nat.mul_le_mul_right _ (Nat.min_le_left _ _)
              refine ⟨vs'.take (min k len * sz), ?_, h3.take _⟩
              refine run_firstCells_some w sz _ _ _ _ _ (by rw [List.length_take]; omega) (fun j v hj => ?_)
              rw [List.getElem?_take] at hj
              split at hj
              · rw [addr_add]; exact h5 j v hj
              · cases hj
          obtain ⟨xs, hfc, hxs⟩ := hxs
          have hcn : c ≠ 0 := by
            have : len ≠ 0 := fun e => hn0 (by rw [e]; exact Nat.min_zero k)
            omega
          obtain rfl := g2.resolve_left hcn
          cases hwr : writeAt h b off ver (cs.take (min k len * sz)) with
          | none => trivial
          | some h' =>
            simp only
            obtain ⟨w', hst, I', p⟩ := own_write I (hX b) hwr g1 hxs
            refine ⟨.int .i64 (min k len : Nat), w', ρ, ?_, .int _ _, I', p⟩
            have hfc' : (Builtin.firstCells sz (Nat.min k len) y).run P w = .ok xs.toArray w := hfc
            simp [Builtin.copy_, run_underlying ht, hlenOf, size?_run hsz, hfc', goInt, hst]

theorem sim_clear (I : Inv P X ρ h w) {t T e : TypeId} {i : TypeInfo} {z x : Value} {tx : V} (ht : P.underlying t = some (.slice e)) (hi : P.info? e = some i) (hz : i.zero = some z) (hX : ∀ b, X b) (hx : VRel ρ w x tx) :
    SimS P X ρ h w ((Builtin.clear_ #[t] T #[x]).run P w)
      (match (generalizing := false) tx with
      | .snil => .ok (.tup []) h
      | .sl b off len _ sz ver _ => bif !(Nat.beq sz i.size) then .fail else bif Nat.beq len 0 then .ok (.tup []) h else (match (generalizing := false) writeAt h b off ver (repl len (ofValue z).cells) with | some h => .ok (.tup []) h | none => .fail)
      | _ => .fail) := by
  have hzr : ∀ w', (zeroValue e).run P w' = .ok z w' := fun w' => zero?_run (by simp [zero?, hi, hz]) w'
  cases hx <;> try trivial
  · exact .pure I (v := undef) (by simp [Builtin.clear_, run_underlying ht, undef]) (undef_rel _ _)
  · rename_i b off len cap sz ver c r ex a g1 g2 g3 g4 g5 g6
    simp only [nbeq, Bool.cond_eq_ite, Bool.not_eq_true', decide_eq_false_iff_not, decide_eq_true_eq]
    split
    · trivial
    split
    · rename_i hl
      subst hl
      exact .pure I (v := undef) (by simp [Builtin.clear_, run_underlying ht, undef]) (undef_rel _ _)
    · rename_i hl
      obtain rfl := g2.resolve_left (by omega)
      cases hwr : writeAt h b off ver (repl len (ofValue z).cells) with
      | none => trivial
      | some h' =>
        simp only
        obtain ⟨w', hst, I', p⟩ := own_write I (hX b) hwr g1 (zeroCells_rel z len)
        refine ⟨undef, w', ρ, ?_, undef_rel _ _, I', p⟩
        obtain ⟨m, rfl⟩ : ∃ m, len = m + 1 := ⟨len - 1, by omega⟩
        simp [Builtin.clear_, run_underlying ht, hzr, hst, undef]

end Go.E

namespace Go.E
variable {P : Program} {X : Nat → Prop} {ρ : Rn} {h : H} {w : World}

theorem freeze_heap (w : World) (r o n : Nat) (hn : n ≠ 0) {c : Array Value} {e : TypeId} {f : Nat × Nat} (hw : w.heap[r]? = some (.cells c e f)) :
    (w.freeze ⟨r, o, none⟩ n).heap[r]? = some (.cells c e (if f.1 == f.2 then (o, o + n) else (min f.1 o, max f.2 (o + n)))) ∧ (∀ r', r' ≠ r → (w.freeze ⟨r, o, none⟩ n).heap[r']? = w.heap[r']?) ∧ (w.freeze ⟨r, o, none⟩ n).heap.size = w.heap.size ∧
    (w.freeze ⟨r, o, none⟩ n).os = w.os ∧ (w.freeze ⟨r, o, none⟩ n).output = w.output ∧ (w.freeze ⟨r, o, none⟩ n).tape = w.tape := by
  unfold World.freeze
  rw [if_neg hn]
  refine ⟨?_, ?_, by simp, rfl, rfl, rfl⟩
  · simp [Array.getElem?_modify, hw]
  · intro r' hr'
    simp [Array.getElem?_modify, Ne.symm hr']

theorem bytes_of_nats {s : List Nat} (hb : ∀ n ∈ s, n < 256) : (s.map fun n => UInt8.ofNat n).map (fun b => Value.int .u8 (b.toNat : Int)) = s.map (fun (n : Nat) => Value.int .u8 (n : Int)) := by
  rw [List.map_map]
  refine List.map_congr_left fun n hn => ?_
  simp [UInt8.toNat_ofNat', Nat.mod_eq_of_lt (hb n hn)]

theorem sim_unsafeStr (I : Inv P X ρ h w) {pt it T e : TypeId} {x n : Value} {tx tn : V} (hp : P.underlying pt = some (.pointer e)) (hc : P.cellsOf e = 1) (hX : ∀ b, X b) (hx : VRel ρ w x tx) (hn : VRel ρ w n tn) :
    SimS P X ρ h w ((Builtin.unsafeString_ #[pt, it] T #[x, n]).run P w)
      (match (generalizing := false) tx, tn with
      | .pnil, .int k m => if k = .i64 ∧ m = 0 then .ok (.str []) h else .fail
      | .ptr b off ver, .int k m => (match (generalizing := false) (if k = .i64 then asNat (.int .i64 m) else none) with
        | some n => bif Nat.beq n 0 then .ok (.str []) h else
          (match (generalizing := false) h.get b with
          | some (.cells cs e' g frz) => bif Nat.beq off 0 && Nat.beq ver cs.length && Nat.beq e e' && Nat.blt g 2 && Nat.ble n 1099511627776 then
            (match (generalizing := false) (cut n cs).bind (·.mapM asByte) with
            | some s => .ok (.str s) (h.put b (.cells cs e' g (max frz n)))
            | none => .fail) else .fail
          | _ => .fail)
        | none => .fail)
      | _, _ => .fail) := by
  have hempty : VRel ρ w (.string .empty) (.str []) := .str .empty
  cases hx <;> try trivial
  · cases hn <;> try trivial
    rename_i k m
    simp only
    split
    · rename_i hk
      obtain ⟨rfl, rfl⟩ := hk
      exact .pure I (v := .string .empty) (Lib.run_unsafeString_none w pt it T none) hempty
    · trivial
  · rename_i b off ver r hL
    cases hn <;> try trivial
    rename_i k m
    by_cases hk : k = .i64
    · subst hk
      simp only [if_true]
      cases hm : asNat (.int .i64 m) with
      | none => trivial
      | some n =>
        obtain ⟨_, _, e2⟩ := asNat_rel (VRel.int .i64 m : VRel ρ w _ _) hm
        cases e2
        simp only [nbeq, nble, nblt, Bool.cond_eq_ite, Bool.and_eq_true, decide_eq_true_eq]
        split
        · rename_i hn0
          subst hn0
          exact .pure I (v := .string .empty) (Lib.run_unsafeString_none w pt it T _) hempty
        · rename_i hn0
          split
          · rename_i cs e' g frz hg
            split
            · rename_i hcond
              obtain ⟨⟨⟨⟨rfl, rfl⟩, rfl⟩, hg2⟩, hbig⟩ := hcond
              cases hs : (cut n cs).bind (·.mapM asByte) with
              | none => trivial
              | some s =>
                simp only
                obtain ⟨l, hcut, hby⟩ := Option.bind_eq_some_iff.1 hs
                obtain ⟨rfl, hle⟩ := cut_eq _ _ _ hcut
                obtain ⟨c, f, hw, hcl, hge, hrel, hfz⟩ := I.blk (hX b) hg hL
                have hx := hrel.take n
                rw [List.take_take, Nat.min_eq_left hle] at hx
                obtain ⟨hvs, hb⟩ := asBytes_rel hx hby
                have hsl : s.length = n := by
                  have := congrArg List.length hvs
                  simp at this
                  omega
                have hcell : ∀ (j : Nat) (x : UInt8), (s.map fun n => UInt8.ofNat n)[j]? = some x → w.cell? ((⟨r, 0, none⟩ : Addr).add j) = some (.int .u8 x.toNat) := by
                  intro j x hj
                  rw [addr_add]
                  have h1 : ((s.map fun n => UInt8.ofNat n).map (fun b => Value.int .u8 (b.toNat : Int)))[j]? = some (.int .u8 x.toNat) := by
                    rw [List.getElem?_map, hj]; rfl
                  rw [bytes_of_nats hb, ← hvs, List.getElem?_take] at h1
                  split at h1
                  · simp [World.cell?, hw]
                    simpa using h1
                  · cases h1
                have hrun := Lib.run_unsafeString_row (P := P) w pt it T e hp hc r c.size (by simp [World.shape?, hw]) (s.map fun n => UInt8.ofNat n) (by
                  intro hnil
                  have : s = [] := by simpa using hnil
                  rw [this] at hsl
                  exact hn0 hsl.symm) (by simp; omega) (by simp; omega) hcell
                rw [List.length_map, hsl] at hrun
                obtain ⟨g1, g2, g3, g4⟩ := freeze_heap w r 0 n hn0 hw
                have K : Keeps ρ w ρ (w.freeze ⟨r, 0, none⟩ n) := {
                  L := fun h => h
                  S := fun h => h
                  cell := fun {r' o' x} _ hc' => by
                    by_cases hr' : r' = r
                    · subst hr'
                      simp only [World.cell?, hw] at hc'
                      simp only [World.cell?, g1]
                      exact hc'
                    · simp only [World.cell?, g2 r' hr']
                      exact hc'
                  shape := fun {r' c' e' f'} hh => by
                    by_cases hr' : r' = r
                    · subst hr'
                      rw [hw] at hh
                      cases hh
                      exact ⟨_, _, g1, rfl⟩
                    · exact ⟨_, _, (g2 r' hr').trans hh, rfl⟩
                  maps := fun {r' es cl} hh => by
                    have hr' : r' ≠ r := fun e1 => by subst e1; rw [hw] at hh; cases hh
                    exact ⟨_, _, (g2 r' hr').trans hh, fun e he => ⟨e, he, rfl, fun _ hk => hk⟩⟩ }
                have fin := I.put (blk' := .cells cs e g (max frz n)) hg hL rfl g3 g2 K g4 (fun o hS => by
                  obtain ⟨_, _, _, _, e2, hlt⟩ := I.stab (hX b) hg hL hS
                  cases e2
                  exact ⟨_, _, _, _, rfl, by omega⟩) ⟨c, _, g1, hcl, hge, hrel.keep K, by
                    by_cases hff : f.1 = f.2
                    · rw [if_pos (by simpa using hff)]
                      exact .inr (.inl (by simp; omega))
                    · rw [if_neg (by simpa using hff)]
                      rcases hfz with h1 | h1 | h1
                      · exact absurd h1 hff
                      · exact .inr (.inl (by simp; omega))
                      · omega⟩
                refine ⟨.string ⟨(s.map fun n => UInt8.ofNat n).toArray⟩, _, ρ, hrun, ?_, fin.1.more (fun b hb => hb), fin.2⟩
                have := VRel.str (ρ := ρ) (w := w.freeze ⟨r, 0, none⟩ n) ⟨(s.map fun n => UInt8.ofNat n).toArray⟩
                rw [bs_of_nats s hb] at this
                exact this
            · trivial
          · trivial
    · simp only [if_neg hk]
      trivial

theorem sim_toUnsafe (I : Inv P X ρ h w) {s d t : TypeId} {n : Nat} {x : Value} {tx : V} (hs : P.underlying s = some (.pointer t)) (hd : P.underlying d = some .unsafePointer) (hn : size? P t = some (n + 1)) (hX : ∀ b off u, tx = .ptr b off u → X b) (hx : VRel ρ w x tx) :
    SimS P X ρ h w ((convert s d x).run P w)
      (match (generalizing := false) tx with
      | .pnil => .ok .pnil h
      | .ptr b off ver => (match (generalizing := false) h.get b with
        | some (.cells cs _ _ _) => bif Nat.beq ver cs.length && Nat.blt off ver then .ok (.ptr b off ver) h else .fail
        | _ => .fail)
      | _ => .fail) := by
  cases hx <;> try trivial
  · exact .pure I (v := .pointer none) (by simp [convert, run_underlying hs, run_underlying hd, Conv.unsafePointer]) .pnil
  · rename_i b off ver r hL
    simp only
    split
    · rename_i cs e g frz hg
      simp only [nbeq, nblt, Bool.cond_eq_ite, Bool.and_eq_true, decide_eq_true_eq]
      split
      · rename_i hc
        obtain ⟨rfl, hlt⟩ := hc
        obtain ⟨c, f, hw, hcl, _⟩ := I.blk (hX _ _ _ rfl) hg hL
        have hsh : w.shape? r = some (e, c.size) := by simp [World.shape?, hw]
        refine .pure I (v := .pointer (some ⟨r, off, none⟩)) ?_ (.ptr hL)
        have h1 : ¬ (c.size ≤ off) := by omega
        simp [convert, run_underlying hs, run_underlying hd, Conv.unsafePointer, Conv.seenAt, viewAt, cellsIn, hsh, size?_run hn, h1]
      · trivial
    · trivial

theorem rowAt_mono (fits : TypeId → Bool) : ∀ (d : Nat) (e : TypeId) (n m off k : Nat), n ≤ m → rowAt P fits d e n off k = true → rowAt P fits d e m off k = true
  | 0, _, _, _, _, _, _, h => by simp [rowAt] at h
  | d + 1, e, n, m, off, k, hnm, h => by
    simp only [rowAt] at h ⊢
    split at h
    · cases h
    · rename_i h0
      rw [if_neg h0]
      simp only [Bool.or_eq_true, Bool.and_eq_true, decide_eq_true_eq] at h ⊢
      rcases h with ⟨⟨h1, h2⟩, h3⟩ | ⟨h1, h2⟩
      · exact .inl ⟨⟨h1, by omega⟩, h3⟩
      · exact .inr ⟨by omega, h2⟩

theorem liesAt_mono : ∀ (d : Nat) (e : TypeId) (n m off : Nat) (u : TypeId) (k : Nat), n ≤ m → liesAt P d e n off u k = true → liesAt P d e m off u k = true
  | 0, _, _, _, _, _, _, _, h => by simp [liesAt] at h
  | d + 1, e, n, m, off, u, k, hnm, h => by
    simp only [liesAt, Bool.or_eq_true] at h ⊢
    rcases h with h | h
    · exact .inl (rowAt_mono _ _ _ _ _ _ _ hnm h)
    · right
      split at h
      · exact liesAt_mono d e n m off _ _ hnm h
      · cases h

theorem sim_ofUnsafe (I : Inv P X ρ h w) {s d t : TypeId} {x : Value} {tx : V} {lies : Nat → Nat → Nat → Nat → Bool} (hlies : ∀ e n off t, lies e n off t = true → liesAt P P.depth e (n / P.cellsOf e) off t 1 = true) (hs : P.underlying s = some .unsafePointer) (hd : P.underlying d = some (.pointer t)) {n : Nat} (hn : size? P t = some n)
    (hX : ∀ b off u, tx = .ptr b off u → X b) (hx : VRel ρ w x tx) :
    SimS P X ρ h w ((convert s d x).run P w)
      (match (generalizing := false) tx with
      | .pnil => .ok .pnil h
      | .ptr b off ver => (match (generalizing := false) h.get b with
        | some (.cells cs e _ _) => bif Nat.beq ver cs.length && lies e cs.length off t then .ok (.ptr b off ver) h else .fail
        | _ => .fail)
      | _ => .fail) := by
  cases hx <;> try trivial
  · exact .pure I (v := .pointer none) (by simp [convert, run_underlying hs, run_underlying hd, Conv.unsafePointer]) .pnil
  · rename_i b off ver r hL
    simp only
    split
    · rename_i cs e g frz hg
      simp only [nbeq, Bool.cond_eq_ite, Bool.and_eq_true, decide_eq_true_eq]
      split
      · rename_i hc
        obtain ⟨rfl, hlt⟩ := hc
        obtain ⟨c, f, hw, hcl, _⟩ := I.blk (hX _ _ _ rfl) hg hL
        have hsh : w.shape? r = some (e, c.size) := by simp [World.shape?, hw]
        refine .pure I (v := .pointer (some ⟨r, off, none⟩)) ?_ (.ptr hL)
        have h1 : liesAt P P.depth e (c.size / P.cellsOf e) off t 1 = true := liesAt_mono _ _ _ _ _ _ _ (Nat.div_le_div_right hcl) (hlies _ _ _ _ hlt)
        simp [convert, run_underlying hs, run_underlying hd, Conv.unsafePointer, Conv.seenAt, viewAt, variablesAt, hsh, h1, size?_run hn]
      · trivial
    · trivial

end Go.E

namespace Go.E
variable {P : Program} {X : Nat → Prop} {ρ : Rn} {h : H} {w : World}

/-! ### Building -/
theorem zipIdx_setVs : ∀ (l : List Value) (k off : Nat) (c : Array Value), (l.zipIdx k).foldl (fun cs p => cs.setIfInBounds (off + p.2) p.1) c = setVs c (off + k) l
  | [], _, _, _ => rfl
  | v :: l, k, off, c => by
    rw [List.zipIdx_cons, List.foldl_cons, zipIdx_setVs l (k + 1) off, setVs, Nat.add_assoc]

inductive PRel (place : Nat → Option (Nat × Nat)) : List (Nat × Operand) → List (Nat × Nat × Opd) → Prop
  | nil : PRel place [] []
  | cons {i off size : Nat} {x : Operand} {ps : List (Nat × Operand)} {qs : List (Nat × Nat × Opd)} : place i = some (off, size) → PRel place ps qs → PRel place ((i, x) :: ps) ((off, size, opd x) :: qs)

theorem fill_rel {C : Ctx} {a : Act} {env : Env} (he : ERel ρ w a.tmps env) (hg : Globs ρ w C) {place : Nat → Option (Nat × Nat)} : ∀ {ps : List (Nat × Operand)} {qs : List (Nat × Nat × Opd)}, PRel place ps qs →
    ∀ {c : Array Value} {cs cs' : List V}, VsRel ρ w c.toList cs → fillP C env cs qs = some cs' → ∃ c', Instr.fill place c (ps.map fun p => (p.1, a.eval p.2)) = some c' ∧ VsRel ρ w c'.toList cs' ∧ cs'.length = cs.length
  | _, _, .nil, c, cs, cs', hv, hf => by
    simp only [fillP, Option.some.injEq] at hf
    subst hf
    exact ⟨c, rfl, hv, rfl⟩
  | _, _, .cons (i := i) (off := off) (size := size) (x := x) hp hps, c, cs, cs', hv, hf => by
    simp only [fillP] at hf
    split at hf
    · rename_i vs hvs
      simp only [nbeq, nble, Bool.cond_eq_ite, Bool.and_eq_true, decide_eq_true_eq] at hf
      split at hf
      · rename_i hc
        obtain ⟨hl, hle⟩ := hc
        have hx := cells?_rel (opd_rel he hg x) hvs
        have hlen := hx.length
        have hcl := hv.length
        simp only [Array.length_toList] at hlen hcl
        have h1 : VsRel ρ w (setVs c off (a.eval x).cells.toList).toList (setL cs off vs) := by
          have := VsRel.setL hx (c := c) off c.size (by rw [List.take_of_length_le (by simp)]; exact hv) (by simp; omega)
          rwa [List.take_of_length_le (by rw [Array.length_toList, size_setVs]; exact Nat.le_refl _)] at this
        obtain ⟨c', h2, h3, h4⟩ := fill_rel he hg hps h1 hf
        refine ⟨c', ?_, h3, h4.trans (setL_length _ _ _)⟩
        simp only [List.map_cons, Instr.fill, hp]
        rw [if_neg (by simp; omega)]
        rw [← h2]
        congr 1
        have := zipIdx_setVs (a.eval x).cells.toList 0 off c
        rw [Nat.add_zero] at this
        rw [← this, ← Array.foldl_toList]
        simp
      · cases hf
    · cases hf

theorem PRel_map {place : Nat → Option (Nat × Nat)} {s : Nat} : ∀ (l : List (Nat × Operand)), (∀ i, place i = some (i * s, s)) → PRel place l (l.map fun p => (p.1 * s, s, opd p.2))
  | [], _ => .nil
  | (_, _) :: l, h => .cons (h _) (PRel_map l h)

theorem PRel_mapM {place : Nat → Option (Nat × Nat)} : ∀ (l : List (Nat × Operand)) (qs : List (Nat × Nat × Opd)), (l.mapM fun p => (place p.1).map fun q => (q.1, q.2, opd p.2)) = some qs → PRel place l qs
  | [], qs, h => by simp at h; subst h; exact .nil
  | (i, x) :: l, qs, h => by
    simp only [List.mapM_cons, Option.bind_eq_bind, Option.pure_def, Option.bind_eq_some_iff, Option.map_eq_some_iff, Option.some.injEq] at h
    obtain ⟨a, ⟨⟨o, s⟩, h1, rfl⟩, b, h2, rfl⟩ := h
    exact .cons h1 (PRel_mapM l b h2)

theorem sim_build {C : Ctx} {a : Act} {env : Env} (I : Inv P X ρ h w) (he : ERel ρ w a.tmps env) (hg : Globs ρ w C) {t : TypeId} {z : Value} {ps : Array (Nat × Operand)} {qs : List (Nat × Nat × Opd)} (hz : zero? P t = some z) (hq : partsOf P t ps = some qs) (hns : ∀ e, P.underlying t ≠ some (.slice e)) :
    SimS P X ρ h w ((Instr.build t (ps.map fun (i, x) => (i, a.eval x))).run P w) (o2r ((fillP C env (ofValue z).cells qs).map .agg) h) := by
  refine SimS.o2r fun tv ht => ?_
  obtain ⟨cs', hf, rfl⟩ := Option.map_eq_some_iff.1 ht
  have hzr := zero_cells_rel ρ w z
  obtain ⟨it, hit, hzz⟩ := Option.bind_eq_some_iff.1 hz
  have hmap : (ps.map fun (i, x) => (i, a.eval x)).toList = ps.toList.map fun p => (p.1, a.eval p.2) := by simp
  unfold partsOf at hq
  split at hq
  · rename_i fs hu
    obtain ⟨places, hp, hq⟩ := Option.bind_eq_some_iff.1 hq
    obtain ⟨c', h1, h2, _⟩ := fill_rel he hg (PRel_mapM _ _ hq) hzr hf
    refine .pure I (run_build w t _ c' ?_) (.agg h2)
    rw [hmap]
    simp only [Program.built, hit, hu, hzz, hp]
    exact h1
  · rename_i n e hu
    obtain ⟨s, hs, hq⟩ := Option.bind_eq_some_iff.1 hq
    simp only [Option.pure_def, Option.some.injEq] at hq
    subst hq
    obtain ⟨ie, hie, rfl⟩ := Option.map_eq_some_iff.1 hs
    obtain ⟨c', h1, h2, _⟩ := fill_rel he hg (PRel_map _ (fun i => rfl)) hzr hf
    refine .pure I (run_build w t _ c' ?_) (.agg h2)
    rw [hmap]
    simp only [Program.built, hit, hu, hzz, hie]
    exact h1
  · rename_i e hu
    exact absurd hu (hns e)
  · cases hq

theorem repl_made (z : Value) (n : Nat) {s : Nat} (hs : z.cells.size = s) : VsRel ρ w (madeCells z.cells (n * s)).toList (repl n (ofValue z).cells) := by
  subst hs
  have : (madeCells z.cells (n * z.cells.size)).toList = (List.replicate n z.cells.toList).flatten := by
    rw [← zeroRow_toList]
    simp [madeCells]
  rw [this]
  exact (zero_cells_rel ρ w z).flatten n

theorem sim_bslice {C : Ctx} {a : Act} {env : Env} (I : Inv P X ρ h w) (he : ERel ρ w a.tmps env) (hg : Globs ρ w C) {t e : TypeId} {z : Value} {s len : Nat} {ps : Array (Nat × Operand)} {qs : List (Nat × Nat × Opd)} (hu : P.underlying t = some (.slice e)) (hz : zero? P e = some z) (hs : size? P e = some s) (hzs : z.cells.size = s) (_h0 : s ≠ 0) (hbig : len * s ≤ 16777216) (hq : partsOf P t ps = some qs) :
    SimS P X ρ h w ((Instr.buildSlice t len (ps.map fun (i, x) => (i, a.eval x))).run P w)
      (match (generalizing := false) fillP C env (repl len (ofValue z).cells) qs with
      | some cs => .ok (.sl h.size 0 len len s cs.length true) (h.push (.cells cs e 0 0))
      | none => .fail) := by
  cases hf : fillP C env (repl len (ofValue z).cells) qs with
  | none => trivial
  | some cs' =>
    unfold partsOf at hq
    rw [hu] at hq
    obtain ⟨s', hs', hq⟩ := Option.bind_eq_some_iff.1 hq
    rw [hs] at hs'
    cases hs'
    simp only [Option.pure_def, Option.some.injEq] at hq
    subst hq
    obtain ⟨c', h1, h2, h3⟩ := fill_rel he hg (PRel_map _ (fun i => rfl)) (repl_made (ρ := ρ) (w := w) z len hzs) hf
    have hlen := h2.length
    obtain ⟨I', p, hL⟩ := I.push (blk := .cells cs' e 0 0) (o := .cells c' e) (fun ρ' _ K => by
      refine ⟨c', (0, 0), by rw [alloc_heap, if_pos rfl], by simpa using Nat.le_of_eq hlen.symm, fun _ => by simpa using hlen, ?_, .inl rfl⟩
      rw [← hlen, List.take_length]
      exact h2.keep K)
    have hsz : c'.size = len * s := by
      have h4 := (repl_made (ρ := ρ) (w := w) z len hzs).length
      rw [Array.length_toList, size_madeCells] at h4
      rw [Array.length_toList] at hlen
      omega
    refine ⟨_, _, _, ?_, .sl (r := w.heap.size) hL (.inr rfl) (fun _ => rfl) (Nat.le_refl _) (Nat.le_refl _) ⟨_, _, _, by rw [alloc_heap]; exact if_pos rfl, by omega⟩, I', p⟩
    have hmap : (ps.map fun (i, x) => (i, a.eval x)).toList = ps.toList.map fun p => (p.1, a.eval p.2) := by simp
    have hn : ¬ (16777216 < len * s) := by omega
    have h1' : Instr.fill (fun i => some (i * s, s)) ((Array.range (len * s)).map (z.cells[· % z.cells.size]!)) (ps.map fun (i, x) => (i, a.eval x)).toList = some c' := by rw [hmap]; exact h1
    by_cases hl : len * s = 0
    · rw [hl] at h1'
      simp only [Array.range_zero', Array.map_empty] at h1'
      simp only [Instr.buildSlice, run_underlying hu, size?_run hs, hl, newRow, Array.range_zero', Sem.run_bind, Result.andThen_ok, h1', if_true, Array.map_empty, Array.range_zero', Sem.run_pure]
      simp
    · simp only [Instr.buildSlice, run_underlying hu, size?_run hs, zero?_run hz, hn, hl, newRow, Sem.run_bind, Result.andThen_ok, h1', if_false, Sem.run_pure]
      simp

theorem sim_mkSlice (I : Inv P X ρ h w) {t e : TypeId} {i : TypeInfo} {z l c : Value} {tl tc : V} (hu : P.underlying t = some (.slice e)) (hi : P.info? e = some i) (hz : i.zero = some z) (hzs : z.cells.size = i.size) (hl : VRel ρ w l tl) (hc : VRel ρ w c tc) :
    SimS P X ρ h w ((Instr.makeSlice t l c).run P w)
      (match (generalizing := false) asNat tl, asNat tc with
      | some l, some c => bif Nat.ble l c && Nat.ble (i.bytes * c) 1099511627776 && Nat.ble c 1099511627776 then .ok (.sl h.size 0 l c i.size (c * i.size) true) (h.push (.cells (repl c (ofValue z).cells) e 0 0)) else .fail
      | _, _ => .fail) := by
  cases hl' : asNat tl with
  | none => trivial
  | some l' =>
    cases hc' : asNat tc with
    | none => trivial
    | some c' =>
      obtain ⟨kl, rfl, _⟩ := asNat_rel hl hl'
      obtain ⟨kc, rfl, _⟩ := asNat_rel hc hc'
      simp only [nble, Bool.cond_eq_ite, Bool.and_eq_true, decide_eq_true_eq]
      split
      · rename_i hh
        obtain ⟨⟨h1, h2⟩, h3⟩ := hh
        have hrun := run_make (P := P) w t e i z hu hi hz kl kc l' c' (by omega) (by omega) (by
          have := Int.ofNat_le.2 h2
          rw [Int.natCast_mul] at this
          omega) (by omega)
        simp only [Int.toNat_natCast] at hrun
        have hm := repl_made (ρ := ρ) (w := w) z c' hzs
        have hlen := hm.length
        obtain ⟨I', p, hL⟩ := I.push (blk := .cells (repl c' (ofValue z).cells) e 0 0) (o := .cells (madeCells z.cells (c' * i.size)) e) (fun ρ' _ K => by
          refine ⟨_, (0, 0), by rw [alloc_heap, if_pos rfl], by simpa using Nat.le_of_eq hlen.symm, fun _ => by simpa using hlen, ?_, .inl rfl⟩
          rw [← hlen, List.take_length]
          exact hm.keep K)
        rw [Array.length_toList, size_madeCells] at hlen
        refine ⟨_, _, _, hrun, .sl (r := w.heap.size) (c := c') (by rw [hlen]; exact hL) (.inr rfl) (fun _ => rfl) (Nat.le_refl _) h1 ⟨_, _, _, by rw [alloc_heap]; exact if_pos rfl, by rw [size_madeCells]; omega⟩, I', p⟩
      · trivial

theorem sim_toBytes (I : Inv P X ρ h w) {s d e : TypeId} {x : Value} {tx : V} (hs : P.underlying s = some .string) (hd : P.underlying d = some (.slice e)) (he : P.underlying e = some (.int .u8)) (hx : VRel ρ w x tx) :
    SimS P X ρ h w ((convert s d x).run P w)
      (match (generalizing := false) tx with
      | .str s => .ok (.sl h.size 0 s.length s.length 1 s.length false) (h.push (.cells (s.map fun (n : Nat) => V.int .u8 n) e 2 0))
      | _ => .fail) := by
  cases hx <;> try trivial
  rename_i b
  have hrun := Lib.run_convert_string_bytes (P := P) w s d e b hs hd he
  have hge := grownCap_ge w b.size 0 e
  have hcs : (Lib.bytesCells w e b).size = grownCap w b.size 0 e := by simp [Lib.bytesCells]; omega
  have hb := bs_length b
  have hbr := byteCells_rel (ρ := ρ) (w := w) b
  have hbl := hbr.length
  have hmap : ((bs b).map fun (n : Nat) => V.int .u8 n).length = b.size := by rw [List.length_map, hb]
  have hW : (Lib.bytesWorld w e b).heap = (w.alloc (.cells (Lib.bytesCells w e b) e ((Lib.bytesCells w e b).size, (Lib.bytesCells w e b).size + 1))).heap := by
    apply Array.ext_getElem?
    intro r
    rw [alloc_heap]
    split
    · rename_i hr
      subst hr
      exact Lib.bytesWorld_at_new w e b
    · rename_i hr
      by_cases h : r < w.heap.size
      · exact Lib.bytesWorld_at_old w e b r h
      · rw [Array.getElem?_eq_none (by rw [Lib.bytesWorld_size]; omega), Array.getElem?_eq_none (Nat.le_of_not_lt h)]
  obtain ⟨I', p, hL⟩ := I.push (blk := .cells ((bs b).map fun (n : Nat) => V.int .u8 n) e 2 0) (o := .cells (Lib.bytesCells w e b) e ((Lib.bytesCells w e b).size, (Lib.bytesCells w e b).size + 1)) (fun ρ' _ K => by
    refine ⟨_, _, by rw [alloc_heap, if_pos rfl], by rw [hmap, hcs]; exact hge, fun h => absurd h (by decide), ?_, .inr (.inr ⟨rfl, Nat.le_refl _⟩)⟩
    have : (Lib.bytesCells w e b).toList.take ((bs b).map fun (n : Nat) => V.int .u8 n).length = byteCells b := by
      rw [hmap]
      simp [Lib.bytesCells, byteCells]
    rw [this]
    exact hbr.keep K)
  have K' : (Lib.bytesWorld w e b).os = (w.alloc (.cells (Lib.bytesCells w e b) e ((Lib.bytesCells w e b).size, (Lib.bytesCells w e b).size + 1))).os ∧ (Lib.bytesWorld w e b).output = (w.alloc (.cells (Lib.bytesCells w e b) e ((Lib.bytesCells w e b).size, (Lib.bytesCells w e b).size + 1))).output ∧ (Lib.bytesWorld w e b).tape = (w.alloc (.cells (Lib.bytesCells w e b) e ((Lib.bytesCells w e b).size, (Lib.bytesCells w e b).size + 1))).tape := by
    unfold Lib.bytesWorld World.freeze
    rw [if_neg (by decide)]
    exact ⟨rfl, rfl, rfl⟩
  have hL' : (ρ.at h.size (ver (.cells ((bs b).map fun (n : Nat) => V.int .u8 n) e 2 0)) w.heap.size).L h.size (bs b).length = some w.heap.size := by
    have := hL
    simp only [ver, List.length_map] at this ⊢
    exact this
  refine ⟨_, _, _, hrun, ?_, I'.heap hW K', p.trans (Post.heap hW K')⟩
  have h1 : VRel (ρ.at h.size (ver (.cells ((bs b).map fun (n : Nat) => V.int .u8 n) e 2 0)) w.heap.size) (Lib.bytesWorld w e b) (.slice (some ⟨w.heap.size, 0, none⟩) (bs b).length (grownCap w b.size 0 e)) (.sl h.size 0 (bs b).length (bs b).length 1 (bs b).length false) :=
    .sl (r := w.heap.size) hL' (.inr rfl) (fun h => by cases h) (by rw [hb]; exact hge) (Nat.le_refl _) ⟨_, _, _, Lib.bytesWorld_at_new w e b, by omega⟩
  rw [hb] at h1
  rw [hb]
  exact h1

end Go.E
