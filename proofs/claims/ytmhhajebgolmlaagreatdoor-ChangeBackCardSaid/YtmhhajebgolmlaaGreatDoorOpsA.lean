/- The plain machine's operations, held against the model's, first part. -/
import Derived.Test.YtmhhajebgolmlaaGreatDoorRel
import Derived.Laws.Entries
import Derived.ChangeKeysEq
import Derived.Laws.StructEq
import Derived.Laws.Build
import Derived.Laws.Strings
namespace Go.E
variable {P : Program}

/-- a place for a new block -/
def Rn.at (ρ : Rn) (b v r : Nat) : Rn := { ρ with L := fun b' v' => if b' = b ∧ v' = v then some r else ρ.L b' v' }

/-- What an operation comes to on the other side: the same, over related values. -/
def SimS (P : Program) (X : Nat → Prop) (ρ : Rn) (h : H) (w : World) (run : Result Value) : R V → Prop
  | .ok t h' => ∃ v w' ρ', run = .ok v w' ∧ VRel ρ' w' v t ∧ Inv P (fun b => X b ∨ h.size ≤ b) ρ' h' w' ∧ Post ρ h w ρ' h' w'
  | .pan t h' => ∃ v w' ρ', run = .halt (.panic v) w' ∧ VRel ρ' w' v t ∧ Inv P (fun b => X b ∨ h.size ≤ b) ρ' h' w' ∧ Post ρ h w ρ' h' w'
  | .fail => True

theorem Inv.more {X X' : Nat → Prop} {ρ : Rn} {h : H} {w : World} (I : Inv P X ρ h w) (hx : ∀ b, X' b → X b ∨ h.size ≤ b) : Inv P X' ρ h w where
  dom := I.dom
  fresh := I.fresh
  inj := I.inj
  lt := I.lt
  slt := I.slt
  mark := I.mark
  stab := fun hb hg => I.stab ((hx _ hb).resolve_right (by have := I.dom hg; omega)) hg
  vers := fun hb hg => I.vers ((hx _ hb).resolve_right (by have := I.dom hg; omega)) hg
  blk := fun hb hg => I.blk ((hx _ hb).resolve_right (by have := I.dom hg; omega)) hg

/-- an operation that leaves both memories alone -/
theorem SimS.pure {X : Nat → Prop} {ρ : Rn} {h : H} {w : World} {run : Result Value} {t : V} {v : Value} (I : Inv P X ρ h w) (hr : run = .ok v w) (hv : VRel ρ w v t) :
    SimS P X ρ h w run (.ok t h) :=
  ⟨v, w, ρ, hr, hv, I.more (fun _ hb => hb), Post.refl ρ h w⟩

theorem SimS.o2r {X : Nat → Prop} {ρ : Rn} {h h' : H} {w : World} {run : Result Value} {x : Option V} (hx : ∀ t, x = some t → SimS P X ρ h w run (.ok t h')) : SimS P X ρ h w run (o2r x h') := by
  cases x with
  | none => trivial
  | some t => exact hx t rfl

/-! ### Reading -/
theorem own_read {X : Nat → Prop} {ρ : Rn} {h : H} {w : World} (I : Inv P X ρ h w) {b off v r : Nat} {l : List V} (hx : X b) (hr : readAt h b off v = some l) (hL : ρ.L b v = some r) :
    ∃ vs : List Value, VsRel ρ w vs l ∧ ∀ (j : Nat) (x : Value), vs[j]? = some x → w.cell? ⟨r, off + j, none⟩ = some x := by
  unfold readAt at hr
  split at hr
  · rename_i cs e g frz hg
    cases hb : Nat.beq v cs.length with
    | false => simp [hb] at hr
    | true =>
      simp only [hb, cond_true, Option.some.injEq] at hr
      have hv : v = cs.length := Nat.eq_of_beq_eq_true hb
      subst hr
      obtain ⟨c, f, hw, hle, _, hrel, _⟩ := I.blk hx hg (by simpa [ver, ← hv] using hL)
      refine ⟨(c.toList.take cs.length).drop off, hrel.drop off, fun j x hj => ?_⟩
      simp only [List.getElem?_drop, List.getElem?_take] at hj
      split at hj
      · simp [World.cell?, hw]
        simpa using hj
      · cases hj
  · cases hr

theorem size?_run {t : TypeId} {n : Nat} (h : size? P t = some n) (w : World) : (sizeOf t).run P w = .ok n w := by
  simp only [size?, Option.map_eq_some_iff] at h
  obtain ⟨i, hi, rfl⟩ := h
  simp [sizeOf, run_typeInfo w hi]

theorem zero?_run {t : TypeId} {z : Value} (h : zero? P t = some z) (w : World) : (zeroValue t).run P w = .ok z w := by
  simp only [zero?, Option.bind_eq_some_iff] at h
  obtain ⟨i, hi, hz⟩ := h
  simp [zeroValue, run_typeInfo w hi, hz]

theorem agg?_agg {t : TypeId} {n : Nat} (h : agg? P t = some (some n)) : size? P t = some n ∧ ∀ w, (isAgg t).run P w = .ok true w := by
  unfold agg? at h
  split at h <;> rename_i hu <;> simp only [Option.map_eq_some_iff, Option.some.injEq, reduceCtorEq] at h
  · obtain ⟨_, ha, rfl⟩ := h; exact ⟨ha, fun w => by simp [isAgg, run_underlying hu]⟩
  · obtain ⟨_, ha, rfl⟩ := h; exact ⟨ha, fun w => by simp [isAgg, run_underlying hu]⟩

theorem agg?_cell {t : TypeId} (h : agg? P t = some none) : ∀ w, (isAgg t).run P w = .ok false w := by
  intro w
  cases hd : P.underlying t with
  | none => simp [agg?, hd] at h
  | some d => cases d <;> simp [agg?, hd, isAgg, run_underlying hd] at h ⊢

/-- what is read at an address, as a value -/
theorem run_loadVar_rel {ρ : Rn} {w : World} {t : TypeId} {g : Option Nat} {l : List V} {tv : V} {r off : Nat} {vs : List Value} (hg : agg? P t = some g) (hm : mkVal g l = some tv)
    (hv : VsRel ρ w vs l) (hc : ∀ (j : Nat) (x : Value), vs[j]? = some x → w.cell? ⟨r, off + j, none⟩ = some x) :
    ∃ v, (loadVar t ⟨r, off, none⟩).run P w = .ok v w ∧ VRel ρ w v tv := by
  cases g with
  | none =>
    have ha := agg?_cell hg w
    unfold mkVal at hm
    cases l with
    | nil => simp at hm
    | cons x l =>
      simp at hm
      subst hm
      cases hv with
      | cons h1 h2 =>
        rename_i v vs
        have := hc 0 v rfl
        simp at this
        exact ⟨v, by simp [loadVar, ha, this], h1⟩
  | some n =>
    obtain ⟨hs, ha⟩ := agg?_agg hg
    simp only [mkVal, Option.map_eq_some_iff] at hm
    obtain ⟨l', hl, rfl⟩ := hm
    obtain ⟨rfl, hn⟩ := cut_eq n l l' hl
    have hlen := hv.length
    have hlen' : (vs.take n).length = n := by simp; omega
    have hrun := run_loadCells_list (P := P) w ⟨r, off, none⟩ (vs.take n) (fun j v hj => by
      rw [List.getElem?_take] at hj
      split at hj
      · rw [Addr.add_lit]; exact hc j v hj
      · cases hj)
    rw [hlen'] at hrun
    exact ⟨.agg (vs.take n).toArray, by simp [loadVar, ha w, size?_run hs w, hrun], .agg (by simpa using hv.take n)⟩

theorem sim_load {X : Nat → Prop} {ρ : Rn} {h : H} {w : World} {t : TypeId} {g : Option Nat} {v : Value} {a : V} (I : Inv P X ρ h w) (hg : agg? P t = some g) (hv : VRel ρ w v a)
    (hx : ∀ b off u, a = .ptr b off u → X b) :
    SimS P X ρ h w ((Instr.loadAt t v).run P w)
      (match (generalizing := false) a with
        | .ptr b off ver => o2r ((readAt h b off ver).bind (mkVal g)) h
        | .pimm cs => o2r (mkVal g cs) h
        | _ => .fail) := by
  cases hv <;> try trivial
  · rename_i b off u r hL
    refine SimS.o2r fun tv ht => ?_
    obtain ⟨l, hr, hm⟩ := Option.bind_eq_some_iff.1 ht
    obtain ⟨vs, hvs, hc⟩ := own_read I (hx _ _ _ rfl) hr hL
    obtain ⟨v, hrun, hrel⟩ := run_loadVar_rel hg hm hvs hc
    exact .pure I (v := v) (by simp [Instr.loadAt, Instr.sureAddr, hrun]) hrel
  · rename_i r o cs hC
    refine SimS.o2r fun tv hm => ?_
    obtain ⟨vs, hvs, hc⟩ := hC.read
    obtain ⟨v, hrun, hrel⟩ := run_loadVar_rel hg hm hvs hc
    exact .pure I (v := v) (by simp [Instr.loadAt, Instr.sureAddr, hrun]) hrel

/-! ### Writing -/
theorem BRel.post {ρ ρ' : Rn} {h h' : H} {w w' : World} (p : Post ρ h w ρ' h' w') {r : Nat} {blk : Blk} (hw : w'.heap[r]? = w.heap[r]?)
    (hb : BRel P ρ w r blk) : BRel P ρ' w' r blk := by
  cases blk with
  | cells cs e g frz =>
    obtain ⟨c, f, h1, h2, h3, h4, h5⟩ := hb
    exact ⟨c, f, hw.trans h1, h2, h3, h4.keep p.keeps, h5⟩
  | map es =>
    obtain ⟨es', clock, h1, g4, g2, g5⟩ := hb
    exact ⟨es', clock, hw.trans h1, g4.imp fun a b hd => ⟨hd.1, hd.2.keep p.keeps⟩, g2, g5⟩
  | loop ps env assign body st pending =>
    obtain ⟨lp, h1, h2⟩ := hb
    exact ⟨lp, hw.trans h1, ⟨h2.params, h2.small, h2.le, h2.env.keep p.keeps, h2.assign, h2.body, h2.state, h2.pending⟩⟩

/-- A block's contents are laid anew, at the same length: both memories. -/
theorem Inv.put {X : Nat → Prop} {ρ : Rn} {h : H} {w w' : World} (I : Inv P X ρ h w) {b r : Nat} {blk blk' : Blk} (hg : h.get b = some blk) (hL : ρ.L b (ver blk) = some r)
    (hver : ver blk' = ver blk) (hsize : w'.heap.size = w.heap.size) (hw : ∀ r', r' ≠ r → w'.heap[r']? = w.heap[r']?) (K : Keeps ρ w ρ w') (hworld : w'.os = w.os ∧ w'.output = w.output ∧ w'.tape = w.tape)
    (hst : ∀ o, ρ.S r o → ∃ cs e g frz, blk' = .cells cs e g frz ∧ o < frz) (hb : BRel P ρ w' r blk') :
    Inv P X ρ (h.put b blk') w' ∧ Post ρ h w ρ (h.put b blk') w' := by
  have p : Post ρ h w ρ (h.put b blk') w' := {
    keeps := K
    grows := by omega
    size := Nat.le_refl _
    mark := rfl
    told := fun x hx => by rw [H.wr_put]; split <;> simp [hx]
    newL := fun h1 h2 => by rw [h1] at h2; cases h2
    newS := fun h => .inl h
    rest := fun {r'} hr' hb' => hw r' (fun e => by
      subst e
      have := hb' b _ hL
      rw [H.wr_put, if_pos this.1] at this
      exact this.2 (by simp))
    same := fun {x} hx hn => by
      rw [H.get_put]
      split
      · rename_i e
        subst e
        rw [H.wr_put, if_pos hx] at hn
        exact absurd (by simp) hn
      · rfl
    world := hworld }
  refine ⟨{ dom := ?_, fresh := I.fresh, inj := I.inj, lt := fun hv => hsize ▸ I.lt hv, slt := fun hv => hsize ▸ I.slt hv, mark := I.mark, stab := ?_, vers := ?_, blk := ?_ }, p⟩
  · intro b' x hx
    rw [H.get_put] at hx
    split at hx
    · rename_i e; subst e; exact I.dom hg
    · exact I.dom hx
  · intro b' x r' o hX hx hr' hS
    rw [H.get_put] at hx
    split at hx
    · rename_i e
      subst e
      cases hx
      rw [hver] at hr'
      rw [hL] at hr'
      cases hr'
      exact hst o hS
    · exact I.stab hX hx hr' hS
  · intro b' x v' r' hX hx hr'
    rw [H.get_put] at hx
    split at hx
    · rename_i e
      subst e
      cases hx
      rw [hver]
      exact I.vers hX hg hr'
    · exact I.vers hX hx hr'
  · intro b' x r' hX hx hr'
    rw [H.get_put] at hx
    split at hx
    · rename_i e
      subst e
      cases hx
      rw [hver, hL] at hr'
      cases hr'
      exact hb
    · rename_i hne
      refine BRel.post p (hw r' (fun e => hne ?_)) (I.blk hX hx hr')
      subst e
      exact I.inj hr' hL

def setVs (c : Array Value) (o : Nat) : List Value → Array Value
  | [] => c
  | v :: l => setVs (c.setIfInBounds o v) (o + 1) l

theorem size_setVs : ∀ (l : List Value) (c : Array Value) (o : Nat), (setVs c o l).size = c.size
  | [], _, _ => rfl
  | v :: l, c, o => by rw [setVs, size_setVs l]; simp

theorem setCells_heap : ∀ (l : List Value) (w : World) (r o : Nat) (c : Array Value) (e : TypeId) (f : Nat × Nat), w.heap[r]? = some (.cells c e f) →
    (w.setCells r o l).heap = w.heap.setIfInBounds r (.cells (setVs c o l) e f) ∧ (w.setCells r o l).os = w.os ∧ (w.setCells r o l).output = w.output ∧ (w.setCells r o l).tape = w.tape
  | [], w, r, o, c, e, f, h => by
    refine ⟨?_, rfl, rfl, rfl⟩
    simp only [World.setCells, setVs]
    apply Array.ext_getElem?
    intro i
    rw [Array.getElem?_setIfInBounds]
    split
    · rename_i hi
      subst hi
      rw [h]
      split
      · rfl
      · rename_i hlt
        simp [Array.getElem?_eq_none (Nat.le_of_not_lt hlt)] at h
    · rfl
  | v :: l, w, r, o, c, e, f, h => by
    have hlt : r < w.heap.size := by
      rcases Nat.lt_or_ge r w.heap.size with h' | h'
      · exact h'
      · simp [Array.getElem?_eq_none h'] at h
    have h1 : (w.setCell ⟨r, o, none⟩ v).heap[r]? = some (.cells (c.setIfInBounds o v) e f) := by
      simp [World.setCell, Array.getElem?_modify, h]
    obtain ⟨g1, g2, g3, g4⟩ := setCells_heap l (w.setCell ⟨r, o, none⟩ v) r (o + 1) _ e f h1
    refine ⟨?_, g2, g3, g4⟩
    rw [World.setCells, g1, setVs]
    apply Array.ext_getElem?
    intro i
    simp only [Array.getElem?_setIfInBounds, World.setCell, Array.size_modify, Array.getElem?_modify]
    split <;> rfl

theorem VsRel.setL {ρ : Rn} {w : World} : ∀ {xs : List Value} {vs : List V}, VsRel ρ w xs vs → ∀ {c : Array Value} {cs : List V} (o n : Nat), VsRel ρ w (c.toList.take n) cs → o + xs.length ≤ n → VsRel ρ w ((setVs c o xs).toList.take n) (setL cs o vs)
  | _, _, .nil, _, _, _, _, h, _ => h
  | _, _, .cons (v := x) h1 h2, c, cs, o, n, h, hn => by
    simp only [List.length_cons] at hn
    refine VsRel.setL h2 (o + 1) n ?_ (by omega)
    rw [Array.toList_setIfInBounds, List.take_set]
    exact h.set o h1

theorem okCell_one {ρ : Rn} {w : World} {x : Value} {t : V} (h : VRel ρ w x t) (ht : t.okCell = true) : x.oneCell' = true := by
  cases h <;> simp_all [V.okCell, Value.oneCell']

theorem okCells_one {ρ : Rn} {w : World} : ∀ {xs : List Value} {ts : List V}, VsRel ρ w xs ts → ts.all V.okCell = true → ∀ x ∈ xs, x.oneCell' = true
  | _, _, .nil, _, _, hx => by cases hx
  | _, _, .cons h1 h2, ht, x, hx => by
    simp only [List.all_cons, Bool.and_eq_true] at ht
    rcases List.mem_cons.1 hx with rfl | hx
    · exact okCell_one h1 ht.1
    · exact okCells_one h2 ht.2 x hx

theorem setL_length : ∀ (vs : List V) (l : List V) (o : Nat), (setL l o vs).length = l.length
  | [], _, _ => rfl
  | v :: vs, l, o => by rw [setL, setL_length vs]; simp

theorem own_write {X : Nat → Prop} {ρ : Rn} {h h' : H} {w : World} (I : Inv P X ρ h w) {b off v r : Nat} {vs : List V} {xs : List Value} (hx : X b) (hr : writeAt h b off v vs = some h') (hL : ρ.L b v = some r)
    (hv : VsRel ρ w xs vs) : ∃ w', (storeCells ⟨r, off, none⟩ xs).run P w = .ok () w' ∧ Inv P (fun b => X b ∨ h.size ≤ b) ρ h' w' ∧ Post ρ h w ρ h' w' := by
  unfold writeAt at hr
  split at hr
  · rename_i cs e g frz hg
    simp only [nble, nbeq, Bool.cond_eq_ite, Bool.and_eq_true, decide_eq_true_eq, Option.ite_none_right_eq_some, Option.some.injEq] at hr
    obtain ⟨⟨⟨⟨h1, h2⟩, h3⟩, h4⟩, rfl⟩ := hr
    have hL' : ρ.L b (ver (.cells cs e g frz)) = some r := by simpa [ver, ← h3] using hL
    obtain ⟨c, f, hw, hle, hge, hrel, hfz⟩ := I.blk hx hg hL'
    have hlen := hv.length
    have hcell : ∀ j, w.cell? ⟨r, j, none⟩ = c[j]? := fun j => by simp [World.cell?, hw]
    have hrun := run_storeCells_cells (P := P) r off xs 0 w (fun j hj => by rw [hcell]; simp; omega) (fun j hj => by
      simp only [World.frozen?, hw]
      cases hd : decide (f.1 ≤ off + 0 + j) && decide (off + 0 + j < f.2) with
      | false => rfl
      | true =>
        simp at hd
        omega) (okCells_one hv h4)
    obtain ⟨g1, g2, g3, g4⟩ := setCells_heap xs w r off c e f hw
    have hlt : r < w.heap.size := I.lt hL
    have hother : ∀ r', r' ≠ r → (w.setCells r off xs).heap[r']? = w.heap[r']? := fun r' hr' => by
      rw [g1, Array.getElem?_setIfInBounds]; simp [Ne.symm hr']
    have hsame : (w.setCells r off xs).heap[r]? = some (.cells (setVs c off xs) e f) := by rw [g1]; simp [hlt]
    have K : Keeps ρ w ρ (w.setCells r off xs) := {
      L := fun h => h
      S := fun h => h
      cell := fun {r' o x} hS hc => by
        rw [← hc]
        refine World.cell?_setCells_out r xs off w _ (fun e1 _ => ?_)
        simp only at e1
        subst e1
        obtain ⟨_, _, _, _, e2, hlt⟩ := I.stab hx hg hL' hS
        cases e2
        exact .inl (by simp; omega)
      shape := fun {r' c' e' f'} hh => by
        by_cases hr' : r' = r
        · subst hr'
          rw [hw] at hh
          cases hh
          exact ⟨_, _, hsame, size_setVs xs c off⟩
        · exact ⟨_, _, (hother r' hr').trans hh, rfl⟩
      maps := fun {r' es cl} hh => by
        have hr' : r' ≠ r := fun e1 => by subst e1; rw [hw] at hh; cases hh
        exact ⟨_, _, (hother r' hr').trans hh, fun e he => ⟨e, he, rfl, fun _ hk => hk⟩⟩ }
    refine ⟨w.setCells r off xs, by simpa using hrun, ?_⟩
    have fin := I.put (blk' := .cells (setL cs off vs) e g frz) hg hL' (by simp [ver, setL_length]) (by rw [g1]; simp) hother K ⟨g2, g3, g4⟩ (fun o hS => ?_) ?_
    · exact ⟨fin.1.more (fun b hb => hb), fin.2⟩
    · obtain ⟨_, _, _, _, e2, hlt⟩ := I.stab hx hg hL' hS
      cases e2
      exact ⟨_, _, _, _, rfl, hlt⟩
    · refine ⟨_, _, hsame, by rw [size_setVs, setL_length]; exact hle, fun hgf => by rw [size_setVs, setL_length]; exact hge hgf, ?_, by rw [size_setVs]; exact hfz⟩
      rw [setL_length]
      exact (VsRel.setL (hv.keep K) off cs.length (hrel.keep K) (by omega))
  · cases hr


/-! ### New memory -/
theorem alloc_heap (w : World) (o : Obj) (r : Nat) : (w.alloc o).heap[r]? = if r = w.heap.size then some o else w.heap[r]? := by
  show (w.heap.push o)[r]? = _
  exact Array.getElem?_push

theorem Keeps.alloc (ρ : Rn) (w : World) (o : Obj) (ρ' : Rn) (hL : ∀ {b v r : Nat}, ρ.L b v = some r → ρ'.L b v = some r) (hS : ∀ {r o : Nat}, ρ.S r o → ρ'.S r o) : Keeps ρ w ρ' (w.alloc o) where
  L := hL
  S := hS
  cell := fun {r o x} _ hc => by
    have : r < w.heap.size := by
      rcases Nat.lt_or_ge r w.heap.size with h | h
      · exact h
      · simp [World.cell?, Array.getElem?_eq_none h] at hc
    rw [World.cell?_alloc_lt _ _ _ this]; exact hc
  shape := fun {r c e f} h => by
    have : r < w.heap.size := by
      rcases Nat.lt_or_ge r w.heap.size with h' | h'
      · exact h'
      · simp [Array.getElem?_eq_none h'] at h
    exact ⟨c, f, by rw [alloc_heap, if_neg (by omega)]; exact h, rfl⟩
  maps := fun {r es c} h => by
    have : r < w.heap.size := by
      rcases Nat.lt_or_ge r w.heap.size with h' | h'
      · exact h'
      · simp [Array.getElem?_eq_none h'] at h
    exact ⟨es, c, by rw [alloc_heap, if_neg (by omega)]; exact h, fun e he => ⟨e, he, rfl, fun _ hk => hk⟩⟩

theorem Rn.at_self (ρ : Rn) (b v r : Nat) : (ρ.at b v r).L b v = some r := by simp [Rn.at]

/-- A new block on both sides. -/
theorem Inv.push {X : Nat → Prop} {ρ : Rn} {h : H} {w : World} (I : Inv P X ρ h w) {blk : Blk} {o : Obj}
    (hb : ∀ ρ', ρ' = ρ.at h.size (ver blk) w.heap.size → Keeps ρ w ρ' (w.alloc o) → BRel P ρ' (w.alloc o) w.heap.size blk) :
    Inv P (fun b => X b ∨ h.size ≤ b) (ρ.at h.size (ver blk) w.heap.size) (h.push blk) (w.alloc o) ∧ Post ρ h w (ρ.at h.size (ver blk) w.heap.size) (h.push blk) (w.alloc o) ∧ (ρ.at h.size (ver blk) w.heap.size).L h.size (ver blk) = some w.heap.size := by
  have hnone : ∀ v, ρ.L h.size v = none := fun v => I.fresh (Nat.le_refl _)
  have hL : ∀ {b v r : Nat}, ρ.L b v = some r → (ρ.at h.size (ver blk) w.heap.size).L b v = some r := fun {b v r} hv => by
    simp only [Rn.at]
    split
    · rename_i e; obtain ⟨rfl, rfl⟩ := e; rw [hnone] at hv; cases hv
    · exact hv
  have hL' : ∀ {b v r : Nat}, (ρ.at h.size (ver blk) w.heap.size).L b v = some r → (b = h.size ∧ v = ver blk ∧ r = w.heap.size) ∨ ρ.L b v = some r := fun {b v r} hv => by
    simp only [Rn.at] at hv
    split at hv
    · rename_i e; cases hv; exact .inl ⟨e.1, e.2, rfl⟩
    · exact .inr hv
  have K := Keeps.alloc ρ w o (ρ.at h.size (ver blk) w.heap.size) hL (fun h => h)
  have p : Post ρ h w (ρ.at h.size (ver blk) w.heap.size) (h.push blk) (w.alloc o) := {
    keeps := K
    grows := by simp
    size := by simp
    mark := rfl
    told := fun x hx => hx
    newL := fun {b v r} h1 h2 => by
      rcases hL' h1 with ⟨rfl, rfl, rfl⟩ | h3
      · exact .inl ⟨Nat.le_refl _, by simp, Nat.le_refl _⟩
      · rw [h3] at h2; cases h2
    newS := fun h => .inl h
    rest := fun {r'} hr' _ => by rw [alloc_heap, if_neg (by omega)]
    same := fun {x} hx hn => by
      rw [H.get_push]
      split
      · rename_i e
        have := I.mark
        omega
      · rfl
    world := ⟨rfl, rfl, rfl⟩ }
  refine ⟨{ dom := ?_, fresh := ?_, inj := ?_, lt := ?_, slt := fun hS => by have := I.slt hS; simp; omega, mark := by have := I.mark; simp; omega, stab := ?_, vers := ?_, blk := ?_ }, p, Rn.at_self _ _ _ _⟩
  · intro b x hx
    rw [H.get_push] at hx
    split at hx
    · rename_i e; subst e; simp
    · have := I.dom hx; simp; omega
  · intro b v hb
    simp only [H.size_push] at hb
    cases hq : (ρ.at h.size (ver blk) w.heap.size).L b v with
    | none => rfl
    | some r =>
      rcases hL' hq with ⟨rfl, _, _⟩ | h3
      · omega
      · rw [I.fresh (by omega)] at h3; cases h3
  · intro b v b' v' r h1 h2
    rcases hL' h1 with ⟨rfl, _, rfl⟩ | h3 <;> rcases hL' h2 with ⟨rfl, _, e⟩ | h4
    · rfl
    · exact absurd (I.lt h4) (by omega)
    · subst e; exact absurd (I.lt h3) (by omega)
    · exact I.inj h3 h4
  · intro b v r hv
    rcases hL' hv with ⟨_, _, rfl⟩ | h3
    · simp
    · have := I.lt h3; simp; omega
  · intro b x r o' hX hx hr hS
    rw [H.get_push] at hx
    split at hx
    · rename_i e
      subst e
      cases hx
      rcases hL' hr with ⟨_, _, rfl⟩ | h3
      · exact absurd (I.slt hS) (by omega)
      · rw [hnone] at h3; cases h3
    · rename_i hne
      rcases hL' hr with ⟨e, _, _⟩ | h3
      · exact absurd e hne
      · exact I.stab (hX.resolve_right (by have := I.dom hx; omega)) hx h3 hS
  · intro b x v r hX hx hr
    rw [H.get_push] at hx
    split at hx
    · rename_i e
      subst e
      cases hx
      rcases hL' hr with ⟨_, rfl, _⟩ | h3
      · exact Nat.le_refl _
      · rw [hnone] at h3; cases h3
    · rename_i hne
      rcases hL' hr with ⟨e, _, _⟩ | h3
      · exact absurd e hne
      · exact I.vers (hX.resolve_right (by have := I.dom hx; omega)) hx h3
  · intro b x r hX hx hr
    rw [H.get_push] at hx
    split at hx
    · rename_i e
      subst e
      cases hx
      rcases hL' hr with ⟨_, _, rfl⟩ | h3
      · exact hb _ rfl K
      · rw [hnone] at h3; cases h3
    · rename_i hne
      rcases hL' hr with ⟨e, _, _⟩ | h3
      · exact absurd e hne
      · refine BRel.post p ?_ (I.blk (hX.resolve_right (by have := I.dom hx; omega)) hx h3)
        rw [alloc_heap, if_neg (by have := I.lt h3; omega)]

end Go.E

namespace Go.E
variable {P : Program}

theorem cells?_rel {ρ : Rn} {w : World} {v : Value} {t : V} {cs : List V} (h : VRel ρ w v t) (hc : t.cells? = some cs) : VsRel ρ w v.cells.toList cs := by
  cases h <;> simp only [V.cells?, Option.some.injEq, reduceCtorEq] at hc <;> subst hc <;> simp only [Value.cells]
  case agg hcs => exact hcs
  all_goals refine .cons ?_ .nil
  case bool => exact .bool _
  case int => exact .int _ _
  case str => exact .str _
  case pnil => exact .pnil
  case ptr hL => exact .ptr hL
  case pimm hC => exact .pimm hC
  case snil => exact .snil
  case sl h1 h2 h3 h4 h5 h6 => exact .sl h1 h2 h3 h4 h5 h6
  case simm h1 h2 h3 h4 => exact .simm h1 h2 h3 h4
  case mnil => exact .mnil
  case map h => exact .map h
  case stamp h1 h2 => exact .stamp h1 h2
  case func h1 h2 h3 => exact .func h1 h2 h3
  case nilFunc => exact .nilFunc
  case iface h => exact .iface h
  case nilIface => exact .nilIface
  case tup h => exact .tup h

theorem ofCell_cells (v : Value) : (ofCell v).cells = [ofCell v] := by
  unfold ofCell
  split <;> first | rfl | (split <;> rfl)

theorem zero_cells_rel (ρ : Rn) (w : World) (z : Value) : VsRel ρ w z.cells.toList (ofValue z).cells := by
  have h := ofValue_rel ρ w z
  cases z with
  | agg cs => exact ofCells_rel ρ w cs.toList
  | tuple vs =>
    have : (ofValue (.tuple vs)).cells = [ofValue (.tuple vs)] := by simp only [ofValue]; split <;> rfl
    rw [this]
    exact .cons h .nil
  | _ =>
    simp only [ofValue] at h ⊢
    rw [ofCell_cells]
    exact .cons h .nil

theorem sim_pick {X : Nat → Prop} {ρ : Rn} {h : H} {w : World} (I : Inv P X ρ h w) {c a b : Value} {tc ta tb : V} (hc : VRel ρ w c tc) (ha : VRel ρ w a ta) (hb : VRel ρ w b tb) :
    SimS P X ρ h w ((do pure (if ← asBool c then a else b) : Sem Value).run P w) (match (generalizing := false) tc with | .bool t => .ok (if t then ta else tb) h | _ => .fail) := by
  cases hc <;> try trivial
  rename_i t
  exact .pure I (v := if t then a else b) (by simp [asBool]) (by cases t <;> simp [ha, hb])

theorem sim_box {X : Nat → Prop} {ρ : Rn} {h : H} {w : World} (I : Inv P X ρ h w) {e : TypeId} {v : Value} {cs : List V} (hv : VsRel ρ w v.cells.toList cs) :
    SimS P X ρ h w ((do pure (.pointer (some (← newVar e v))) : Sem Value).run P w) (.ok (.ptr h.size 0 cs.length) (h.push (.cells cs e 0 0))) := by
  obtain ⟨I', p, hL⟩ := I.push (blk := .cells cs e 0 0) (o := .cells v.cells e) (fun ρ' _ K => by
    have hlen := hv.length
    refine ⟨v.cells, (0, 0), by rw [alloc_heap, if_pos rfl], by simpa using Nat.le_of_eq hlen.symm, fun _ => by simpa using hlen, ?_, .inl rfl⟩
    rw [← hlen, List.take_length]
    exact hv.keep K)
  exact ⟨_, _, _, by simp [newVar, newRow], .ptr hL, I', p⟩

theorem sim_alloc {X : Nat → Prop} {ρ : Rn} {h : H} {w : World} (I : Inv P X ρ h w) {e : TypeId} {z : Value} (hz : zero? P e = some z) :
    SimS P X ρ h w ((Instr.alloc e true (.tuple #[])).run P w) (.ok (.ptr h.size 0 (ofValue z).cells.length) (h.push (.cells (ofValue z).cells e 0 0))) := by
  have := sim_box I (e := e) (zero_cells_rel ρ w z)
  simpa [Instr.alloc, zero?_run hz] using this

theorem sim_store {X : Nat → Prop} {ρ : Rn} {h : H} {w : World} (I : Inv P X ρ h w) {t : TypeId} {n : Nat} {a v : Value} {ta tv : V} (hs : size? P t = some n) (ha : VRel ρ w a ta) (hv : VRel ρ w v tv)
    (hx : ∀ b off u, ta = .ptr b off u → X b) :
    SimS P X ρ h w ((do Instr.storeAt t a v; pure undef : Sem Value).run P w)
      (match (generalizing := false) ta with
      | .ptr b off ver =>
        (match (generalizing := false) tv.cells? with
        | some vs => bif Nat.beq vs.length n then (match (generalizing := false) writeAt h b off ver vs with | some h => .ok (.tup []) h | none => .fail) else .fail
        | none => .fail)
      | _ => .fail) := by
  cases ha <;> try trivial
  rename_i b off u r hL
  cases hc : tv.cells? with
  | none => simp [SimS]
  | some vs =>
    have hvs := cells?_rel hv hc
    simp only [nbeq, Bool.cond_decide]
    by_cases hn : vs.length = n
    · rw [if_pos hn]
      cases hwr : writeAt h b off u vs with
      | none => simp [SimS]
      | some h' =>
        obtain ⟨w', hrun, I', p⟩ := own_write I (hx _ _ _ rfl) hwr hL hvs
        have hl := hvs.length
        refine ⟨undef, w', ρ, ?_, undef_rel _ _, I', p⟩
        simp only [Array.length_toList] at hl
        simp [Instr.storeAt, Instr.sureAddr, storeVar, size?_run hs, hrun, ← hn, hl]
    · rw [if_neg hn]; trivial

end Go.E

namespace Go.E
variable {P : Program} {X : Nat → Prop} {ρ : Rn} {h : H} {w : World}

theorem bs_append (a b : ByteArray) : bs (a ++ b) = bs a ++ bs b := by simp [bs]

theorem toNats_inj : ∀ {l m : List UInt8}, l.map (·.toNat) = m.map (·.toNat) → l = m
  | [], [], _ => rfl
  | [], y :: m, h => by simp at h
  | x :: l, [], h => by simp at h
  | x :: l, y :: m, h => by
    simp only [List.map_cons, List.cons.injEq] at h
    rw [UInt8.toNat_inj.1 h.1, toNats_inj h.2]

theorem bs_inj {a b : ByteArray} (h : bs a = bs b) : a = b := by
  obtain ⟨⟨a⟩⟩ := a
  obtain ⟨⟨b⟩⟩ := b
  rw [toNats_inj (l := a) (m := b) h]

theorem toList_data (a : ByteArray) : a.toList = a.data.toList := ByteArray.toList_eq a

theorem bs_beq (a b : ByteArray) : (a.toList == b.toList) = (bs a == bs b) := by
  rw [Bool.eq_iff_iff, beq_iff_eq, beq_iff_eq, toList_data, toList_data]
  exact ⟨fun h => by rw [bs, h, bs], toNats_inj⟩

theorem bs_less (a b : ByteArray) : Op.bytesLess a.toList b.toList = bytesLt (bs a) (bs b) := by
  rw [toList_data, toList_data]
  unfold bs
  generalize a.data.toList = l
  generalize b.data.toList = m
  induction l generalizing m with
  | nil => cases m <;> rfl
  | cons x l ih =>
    cases m with
    | nil => rfl
    | cons y m =>
      simp only [Op.bytesLess, List.map_cons, bytesLt, ih, nblt, nbeq]
      congr 1
      congr 1
      rw [Bool.eq_iff_iff]; simp [UInt8.toNat_inj]

theorem sim_bin (I : Inv P X ρ h w) {op : BinOp} {t : TypeId} {x y : Operand} {a b : Value} {ta tb : V} (ha : VRel ρ w a ta) (hb : VRel ρ w b tb) :
    SimS P X ρ h w ((do eqGuard op t x y a b; binOp op t a b : Sem Value).run P w) (o2r (binop op ta tb) h) := by
  refine SimS.o2r fun tv ht => ?_
  unfold binop at ht
  split at ht
  · cases ha; cases hb
    rename_i k m k' n
    rw [eqGuard_at_int]
    have fin : ∀ r : V, some r = some tv → ∀ v : Value, (binOp op t (.int k m) (.int k' n)).run P w = .ok v w → VRel ρ w v r → SimS P X ρ h w ((do pure (); binOp op t (.int k m) (.int k' n) : Sem Value).run P w) (.ok tv h) := by
      intro r hr v hrun hrel
      cases hr
      exact .pure I (v := v) (by simpa using hrun) hrel
    by_cases hk : k = k'
    · subst hk
      cases op <;> simp only [ne_eq, not_true_eq_false, if_false] at ht
      case add => exact fin _ ht (.int k _) (by simp [binOp, Op.intArith]) (.int _ _)
      case sub => exact fin _ ht (.int k _) (by simp [binOp, Op.intArith]) (.int _ _)
      case mul => exact fin _ ht (.int k _) (by simp [binOp, Op.intArith]) (.int _ _)
      case quo =>
        by_cases h0 : n = 0
        · rw [if_pos h0] at ht; cases ht
        · rw [if_neg h0] at ht; exact fin _ ht (.int k _) (by simp [binOp, Op.intDiv, h0]) (.int _ _)
      case rem =>
        by_cases h0 : n = 0
        · rw [if_pos h0] at ht; cases ht
        · rw [if_neg h0] at ht; exact fin _ ht (.int k _) (by simp [binOp, Op.intDiv, h0]) (.int _ _)
      case and => exact fin _ ht (.int k _) (by simp [binOp, Op.intBits]) (.int _ _)
      case or => exact fin _ ht (.int k _) (by simp [binOp, Op.intBits]) (.int _ _)
      case xor => exact fin _ ht (.int k _) (by simp [binOp, Op.intBits]) (.int _ _)
      case andNot => exact fin _ ht (.int k _) (by simp [binOp, Op.intBits]) (.int _ _)
      case shl =>
        by_cases h0 : n < 0
        · rw [if_pos h0] at ht; cases ht
        · rw [if_neg h0] at ht; exact fin _ ht (.int k _) (by simp [binOp, Op.shift, h0]) (.int _ _)
      case shr =>
        by_cases h0 : n < 0
        · rw [if_pos h0] at ht; cases ht
        · rw [if_neg h0] at ht; exact fin _ ht (.int k _) (by simp [binOp, Op.shift, h0]) (.int _ _)
      case eql => exact fin _ ht (.bool _) (by simp [binOp, Op.intCmp]) (.bool _)
      case neq => exact fin _ ht (.bool _) (by simp [binOp, Op.intCmp]) (.bool _)
      case lss => exact fin _ ht (.bool _) (by simp [binOp, Op.intCmp]) (.bool _)
      case leq => exact fin _ ht (.bool _) (by simp [binOp, Op.intCmp]) (.bool _)
      case gtr => exact fin _ ht (.bool _) (by simp [binOp, Op.intCmp]) (.bool _)
      case geq => exact fin _ ht (.bool _) (by simp [binOp, Op.intCmp]) (.bool _)
    · cases op <;> simp only [ne_eq, hk, not_false_eq_true, if_true, reduceCtorEq] at ht
      case shl =>
        by_cases h0 : n < 0
        · rw [if_pos h0] at ht; cases ht
        · rw [if_neg h0] at ht; exact fin _ ht (.int k _) (by simp [binOp, Op.shift, h0]) (.int _ _)
      case shr =>
        by_cases h0 : n < 0
        · rw [if_pos h0] at ht; cases ht
        · rw [if_neg h0] at ht; exact fin _ ht (.int k _) (by simp [binOp, Op.shift, h0]) (.int _ _)
  · cases ha; cases hb
    rename_i s s'
    rw [eqGuard_at_string]
    have fin : ∀ r : V, some r = some tv → ∀ v : Value, (binOp op t (.string s) (.string s')).run P w = .ok v w → VRel ρ w v r → SimS P X ρ h w ((do pure (); binOp op t (.string s) (.string s') : Sem Value).run P w) (.ok tv h) := by
      intro r hr v hrun hrel
      cases hr
      exact .pure I (v := v) (by simpa using hrun) hrel
    cases op <;> simp only [reduceCtorEq] at ht
    case add =>
      simp only [nble, Bool.cond_decide] at ht
      split at ht
      · rename_i hle
        refine fin _ ht (.string (s ++ s')) ?_ (by rw [← bs_append]; exact .str _)
        have h1 : (bs s).length = s.size := by simp [bs]
        have h2 : (bs s').length = s'.size := by simp [bs]
        rw [h1, h2] at hle
        simp only [binOp, Op.stringOp, IntKind.max_i64]
        rw [if_neg (by omega)]
        rfl
      · cases ht
    case eql => exact fin _ ht (.bool _) (by simp [binOp, Op.stringOp, bs_beq]) (.bool _)
    case neq => exact fin _ ht (.bool (bs s != bs s')) (by simp [binOp, Op.stringOp, bs_beq, bne]) (.bool _)
    case lss => exact fin _ ht (.bool _) (by simp [binOp, Op.stringOp, bs_less]) (.bool _)
    case leq => exact fin _ ht (.bool _) (by simp [binOp, Op.stringOp, bs_less, bs_beq]) (.bool _)
    case gtr => exact fin _ ht (.bool _) (by simp [binOp, Op.stringOp, bs_less, bs_beq]) (.bool _)
    case geq => exact fin _ ht (.bool _) (by simp [binOp, Op.stringOp, bs_less]) (.bool _)
  · cases ht

end Go.E

namespace Go.E
variable {P : Program} {X : Nat → Prop} {ρ : Rn} {h : H} {w : World}

theorem sim_un (I : Inv P X ρ h w) {op : UnOp} {a : Value} {ta : V} (ha : VRel ρ w a ta) : SimS P X ρ h w ((Op.unary op a).run P w) (o2r (unop op ta) h) := by
  refine SimS.o2r fun tv ht => ?_
  unfold unop at ht
  split at ht
  · cases ha; cases ht; exact .pure I (v := .int _ _) (by simp [Op.unary, Op.intArith]) (.int _ _)
  · cases ha; cases ht; exact .pure I (v := .int _ _) (by simp [Op.unary, Op.intBits]) (.int _ _)
  · cases ha; cases ht; exact .pure I (v := .bool _) (by simp [Op.unary]) (.bool _)
  · cases ht

theorem sim_convInt (I : Inv P X ρ h w) {s d : TypeId} {j k : IntKind} {a : Value} {ta : V} (hs : P.underlying s = some (.int j)) (hd : P.underlying d = some (.int k)) (ha : VRel ρ w a ta) :
    SimS P X ρ h w ((convert s d a).run P w) (match (generalizing := false) ta with | .int _ n => .ok (.int k (k.wrap n)) h | _ => .fail) := by
  cases ha <;> try trivial
  exact .pure I (v := .int k _) (by simp [convert, run_underlying hs, run_underlying hd, Conv.intToInt]) (.int _ _)

theorem sim_same (I : Inv P X ρ h w) {s d : TypeId} {a : Value} {ta : V} (hs : P.underlying s = some .string) (hd : P.underlying d = some .string) (ha : VRel ρ w a ta) :
    SimS P X ρ h w ((convert s d a).run P w) (match (generalizing := false) ta with | .str l => .ok (.str l) h | _ => .fail) := by
  cases ha <;> try trivial
  exact .pure I (v := .string _) (by simp [convert, run_underlying hs, run_underlying hd]) (.str _)

theorem sim_mkIface (I : Inv P X ρ h w) {t : TypeId} {d : TypeDesc} {a : Value} {ta : V} (hu : P.underlying t = some d) (hd : ∀ ms, d ≠ .interface ms) (ha : VRel ρ w a ta) :
    SimS P X ρ h w ((Instr.makeInterface t a).run P w) (.ok (.iface t ta) h) := by
  refine .pure I (v := .iface t a) ?_ (.iface ha)
  cases d <;> simp [Instr.makeInterface, run_underlying hu]
  exact absurd rfl (hd _)

theorem sim_mkFunc (I : Inv P X ρ h w) {fn : Fn} {a b : Array Value} {ta tb : List V} (hf : FRel ρ fn fn) (ha : VsRel ρ w a.toList ta) (hb : VsRel ρ w b.toList tb) :
    SimS P X ρ h w ((Instr.makeFunc fn a b).run P w) (.ok (.func fn ta tb) h) :=
  .pure I (v := .func fn a b) (by simp [Instr.makeFunc]) (.func hf ha hb)

theorem asNat_rel {a : Value} {ta : V} {n : Nat} (ha : VRel ρ w a ta) (hn : asNat ta = some n) : ∃ k, a = .int k (n : Int) ∧ ta = .int k (n : Int) := by
  unfold asNat at hn
  split at hn
  · cases ha
    rename_i k m
    split at hn
    · cases hn
      exact ⟨k, by rw [Int.toNat_of_nonneg (by assumption)], by rw [Int.toNat_of_nonneg (by assumption)]⟩
    · cases hn
  · cases hn

/-- an optional bound, and what it comes to -/
def isBnd (d n : Nat) : Option Value → Prop
  | none => n = d
  | some v => ∃ k, v = .int k (n : Int)

theorem isBnd_of {C : Ctx} {a : Act} {env : Env} (he : ERel ρ w a.tmps env) (hg : Globs ρ w C) {d n : Nat} {x : Option Operand} (h : optNat C env d (x.map opd) = some n) : isBnd d n (x.map a.eval) := by
  cases x with
  | none => simp [optNat] at h; exact h.symm
  | some x =>
    simp only [optNat, Option.map_some] at h
    obtain ⟨k, hk, _⟩ := asNat_rel (opd_rel he hg x) h
    exact ⟨k, hk⟩

theorem bound_run {k : IntKind} {n m : Nat} {c : BoundsCode} (h : n ≤ m) : (Instr.sliceBound (.int k (n : Int)) m c).run P w = .ok n w := by
  have : (0 : Int) ≤ n ∧ (n : Int) ≤ m := ⟨by omega, by omega⟩
  simp [Instr.sliceBound, asIntOf, this.2]

theorem sliceBounds_run {lo hi mx : Option Value} {l u M len cap : Nat} {b : Bool} (hmx : isBnd cap M mx) (hM : M ≤ cap) (hhi : isBnd len u hi) (hno : hi = none → mx = none) (hu : u ≤ M) (hlo : isBnd 0 l lo) (hl : l ≤ u) :
    (Instr.sliceBounds b len cap lo hi mx).run P w = .ok (l, u, M) w := by
  cases hi with
  | none =>
    cases hno rfl
    cases hhi
    cases hmx
    cases lo with
    | none => cases hlo; simp [Instr.sliceBounds]
    | some v => obtain ⟨k, rfl⟩ := hlo; simp [Instr.sliceBounds, bound_run hl]
  | some v =>
    obtain ⟨k, rfl⟩ := hhi
    cases mx with
    | none =>
      cases hmx
      cases lo with
      | none => cases hlo; simp [Instr.sliceBounds, bound_run hu]
      | some v => obtain ⟨k, rfl⟩ := hlo; simp [Instr.sliceBounds, bound_run hu, bound_run hl]
    | some v =>
      obtain ⟨k, rfl⟩ := hmx
      cases lo with
      | none => cases hlo; simp [Instr.sliceBounds, bound_run hu, bound_run hM]
      | some v => obtain ⟨k, rfl⟩ := hlo; simp [Instr.sliceBounds, bound_run hu, bound_run hM, bound_run hl]

theorem extract_bs (s : ByteArray) (l u : Nat) : bs (s.extract l u) = ((bs s).drop l).take (u - l) := by
  simp [bs, List.map_drop, List.map_take]

theorem sim_sliceStr (I : Inv P X ρ h w) {t : TypeId} {s : ByteArray} {lo hi : Option Value} {l u : Nat} (ht : P.underlying t = some .string) (hhi : isBnd s.size u hi) (hlo : isBnd 0 l lo) (hu : u ≤ s.size) (hl : l ≤ u) :
    SimS P X ρ h w ((Instr.sliceAt t (.string s) lo hi none).run P w) (.ok (.str (((bs s).drop l).take (u - l))) h) := by
  have hb := sliceBounds_run (P := P) (w := w) (b := false) (mx := none) (cap := s.size) (M := s.size) rfl (Nat.le_refl _) hhi (fun _ => rfl) hu hlo hl
  refine .pure I (v := .string (s.extract l u)) ?_ (by rw [← extract_bs]; exact .str _)
  simp [Instr.sliceAt, run_underlying ht, Instr.slice, hb]

theorem addr_add (r o n : Nat) : (⟨r, o, none⟩ : Addr).add n = ⟨r, o + n, none⟩ := Addr.add_lit r o n

theorem sim_sliceSl (I : Inv P X ρ h w) {t e : TypeId} {size : Nat} {x : Value} {tx : V} {lo hi mx : Option Value} (ht : P.underlying t = some (.slice e)) (hs : size? P e = some size) (hx : VRel ρ w x tx) (hno : hi = none → mx = none)
    (bl bu bm : Nat → Option Nat) (hbl : ∀ n, bl 0 = some n → isBnd 0 n lo) (hbu : ∀ d n, bu d = some n → isBnd d n hi) (hbm : ∀ d n, bm d = some n → isBnd d n mx) (hm0 : mx = none → ∀ d, bm d = some d) :
    SimS P X ρ h w ((Instr.sliceAt t x lo hi mx).run P w)
      (match (generalizing := false) tx with
      | .snil => (match (generalizing := false) bl 0, bu 0, bm 0 with
        | some 0, some 0, some 0 => .ok .snil h
        | _, _, _ => .fail)
      | .sl b off len cap sz ver ex =>
        (match (generalizing := false) bl 0, bu len, bm cap with
        | some l, some u, some m =>
          bif Nat.beq sz size && Nat.ble l u && Nat.ble u m && Nat.ble m cap then .ok (.sl b (off + l * size) (u - l) (m - l) size ver (ex || mx.isSome)) h else .fail
        | _, _, _ => .fail)
      | .simm cs len ex =>
        (match (generalizing := false) bl 0, bu len, bm len with
        | some l, some u, some m =>
          bif Nat.ble l u && Nat.ble u m && Nat.ble m len then .ok (.simm ((cs.drop (l * size)).take ((u - l) * size)) (u - l) ((ex || mx.isSome) && Nat.beq u m)) h else .fail
        | _, _, _ => .fail)
      | _ => .fail) := by
  have hrun : ∀ {a : Option Addr} {len c l u M : Nat}, x = .slice a len c → isBnd c M mx → M ≤ c → isBnd len u hi → u ≤ M → isBnd 0 l lo → l ≤ u →
      (Instr.sliceAt t x lo hi mx).run P w = .ok (.slice (if M = l then a else a.map (·.add (l * size))) (u - l) (M - l)) w := by
    intro a len c l u M hxe h1 h2 h3 h4 h5 h6
    have hb := sliceBounds_run (P := P) (w := w) (b := true) h1 h2 h3 hno h4 h5 h6
    subst hxe
    simp [Instr.sliceAt, run_underlying ht, Instr.slice, hb, size?_run hs]
  cases hx <;> try trivial
  case snil =>
    simp only
    split
    · rename_i h1 h2 h3
      refine .pure I (v := .slice none 0 0) ?_ .snil
      rw [hrun rfl (hbm _ _ h3) (Nat.le_refl _) (hbu _ _ h2) (Nat.le_refl _) (hbl _ h1) (Nat.le_refl _)]
      rfl
    · trivial
  case sl b off len cap sz ver c r ex a g1 g2 g3 g4 g5 g6 =>
    simp only
    split
    · rename_i l u m h1 h2 h3
      simp only [nbeq, nble, Bool.cond_eq_ite, Bool.and_eq_true, decide_eq_true_eq]
      split
      · rename_i hc
        obtain ⟨⟨⟨rfl, hlu⟩, hum⟩, hmc⟩ := hc
        have hM : ∃ M, isBnd c M mx ∧ M ≤ c ∧ m ≤ M ∧ ((ex || mx.isSome) = true → M = m) := by
          cases hmx : mx with
          | none =>
            have := hm0 hmx cap
            rw [h3] at this
            cases this
            exact ⟨c, rfl, Nat.le_refl _, g4, fun he => g3 (by simpa using he)⟩
          | some v =>
            have := hbm _ _ h3
            rw [hmx] at this
            exact ⟨m, this, by omega, Nat.le_refl _, fun _ => rfl⟩
        obtain ⟨M, k1, k2, k3, k4⟩ := hM
        refine .pure I (hrun rfl k1 k2 (hbu _ _ h2) (by omega) (hbl _ h1) hlu) ?_
        obtain ⟨cs, e', f, hw, hle⟩ := g6
        have hroom : off + l * sz + (M - l) * sz ≤ cs.size := by
          have h1 : l * sz + (M - l) * sz = M * sz := by rw [← Nat.add_mul]; congr 1; omega
          have h2 : M * sz ≤ c * sz := Nat.mul_le_mul_right _ k2
          omega
        by_cases hMl : M = l
        · rw [if_pos hMl]
          exact .sl (r := r) g1 (.inl (by omega)) (fun he => by have := k4 he; omega) (by omega) (by omega) ⟨cs, e', f, hw, hroom⟩
        · rw [if_neg hMl]
          have hc0 : c ≠ 0 := by omega
          obtain rfl := g2.resolve_left hc0
          simp only [Option.map_some, addr_add]
          exact .sl (r := r) g1 (.inr rfl) (fun he => by have := k4 he; omega) (by omega) (by omega) ⟨cs, e', f, hw, hroom⟩
      · trivial
    · trivial
  case simm len c ex a cs g1 g2 g3 g4 =>
    simp only
    split
    · rename_i l u m h1 h2 h3
      simp only [nbeq, nble, Bool.cond_eq_ite, Bool.and_eq_true, decide_eq_true_eq]
      split
      · rename_i hc
        obtain ⟨⟨hlu, hum⟩, hmc⟩ := hc
        have hM : ∃ M, isBnd c M mx ∧ M ≤ c ∧ m ≤ M ∧ ((ex || mx.isSome) = true → M = m) := by
          cases hmx : mx with
          | none =>
            have := hm0 hmx len
            rw [h3] at this
            cases this
            exact ⟨c, rfl, Nat.le_refl _, g4, fun he => g3 (by simpa using he)⟩
          | some v =>
            have := hbm _ _ h3
            rw [hmx] at this
            exact ⟨m, this, by omega, Nat.le_refl _, fun _ => rfl⟩
        obtain ⟨M, k1, k2, k3, k4⟩ := hM
        refine .pure I (hrun rfl k1 k2 (hbu _ _ h2) (by omega) (hbl _ h1) hlu) ?_
        have hex : ((ex || mx.isSome) && decide (u = m)) = true → M - l = u - l := fun he => by
          simp only [Bool.and_eq_true, decide_eq_true_eq] at he
          have := k4 he.1
          omega
        have hcut : CRel ρ w a.block (a.off + l * size) ((cs.drop (l * size)).take ((u - l) * size)) := (g2.drop (l * size)).take _
        by_cases hMl : M = l
        · rw [if_pos hMl]
          have : u - l = 0 := by omega
          rw [this, Nat.zero_mul]
          exact .simm (by simp) (by simpa using CRel.nil _ _) (fun he => by have := hex (by simpa [nbeq] using he); omega) (by omega)
        · rw [if_neg hMl]
          simp only [Option.map_some]
          by_cases hcs : cs = []
          · subst hcs
            simp only [List.drop_nil, List.take_nil]
            exact .simm (by simp) (.nil _ _) (fun he => hex (by simpa [nbeq] using he)) (by omega)
          · obtain ⟨ab, ao, as⟩ := a
            obtain rfl := g1 hcs
            rw [addr_add]
            exact .simm (fun _ => rfl) hcut (fun he => hex (by simpa [nbeq] using he)) (by omega)
      · trivial
    · trivial

end Go.E
