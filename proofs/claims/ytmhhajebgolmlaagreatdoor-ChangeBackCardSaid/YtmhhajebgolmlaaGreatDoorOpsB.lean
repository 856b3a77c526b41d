/- The plain machine's operations, held against the model's, second part. -/
import Derived.Test.YtmhhajebgolmlaaGreatDoorOpsA
import Derived.IntWalk
import Derived.Laws.BytesArg
import Derived.Laws.BytesString
import Derived.Deep.AppendSrc
namespace Go.E
variable {P : Program} {X : Nat → Prop} {ρ : Rn} {h : H} {w : World}

theorem sim_sliceArr (I : Inv P X ρ h w) {t e : TypeId} {size n : Nat} {x : Value} {tx : V} {lo hi mx : Option Value} (ht : P.underlying t = some (.array n e)) (hs : size? P e = some size) (hx : VRel ρ w x tx) (hno : hi = none → mx = none)
    (bl bu bm : Option Nat) (hbl : ∀ k, bl = some k → isBnd 0 k lo) (hbu : ∀ k, bu = some k → isBnd n k hi) (hbm : ∀ k, bm = some k → isBnd n k mx) (hX : ∀ b off u, tx = .ptr b off u → X b) :
    SimS P X ρ h w ((Instr.sliceAt t x lo hi mx).run P w)
      (match (generalizing := false) tx, bl, bu, bm with
      | .ptr b off ver, some l, some u, some m => (match (generalizing := false) h.get b with
        | some (.cells cs _ _ _) => bif Nat.ble l u && Nat.ble u m && Nat.ble m n && Nat.beq ver cs.length && Nat.ble (off + n * size) ver then .ok (.sl b (off + l * size) (u - l) (m - l) size ver true) h else .fail
        | _ => .fail)
      | _, _, _, _ => .fail) := by
  cases hx <;> try trivial
  · rename_i b off ver r hL
    cases bl with | none => trivial | some l =>
    cases bu with | none => trivial | some u =>
    cases bm with | none => trivial | some m =>
    simp only
    split
    · rename_i cs e' g frz hg
      simp only [nbeq, nble, Bool.cond_eq_ite, Bool.and_eq_true, decide_eq_true_eq]
      split
      · rename_i hc
        obtain ⟨⟨⟨⟨h1, h2⟩, h3⟩, rfl⟩, h5⟩ := hc
        have hb := sliceBounds_run (P := P) (w := w) (b := false) (hbm _ rfl) h3 (hbu _ rfl) hno h2 (hbl _ rfl) h1
        obtain ⟨c, f, hw, hle, _, _, _⟩ := I.blk (hX _ _ _ rfl) hg hL
        have hroom : off + l * size + (m - l) * size ≤ c.size := by
          have h1 : l * size + (m - l) * size = m * size := by rw [← Nat.add_mul]; congr 1; omega
          have h2 : m * size ≤ n * size := Nat.mul_le_mul_right _ h3
          omega
        refine .pure I (v := .slice (some (if m = l then ⟨r, off, none⟩ else ⟨r, off + l * size, none⟩)) (u - l) (m - l)) ?_ ?_
        · simp [Instr.sliceAt, run_underlying ht, Instr.sureAddr, hb, size?_run hs, addr_add]
        · refine .sl (r := r) hL ?_ (fun _ => rfl) (Nat.le_refl _) (by omega) ⟨_, _, _, hw, hroom⟩
          by_cases hml : m = l
          · exact .inl (by omega)
          · exact .inr (by rw [if_neg hml])
      · trivial
    · trivial

theorem sim_faddr (I : Inv P X ρ h w) {s : TypeId} {fs : Array Field} {f : Nat} {g : Field} {n : Nat} {x : Value} {tx : V} (hs : P.underlying s = some (.struct fs)) (hf : fs[f]? = some g) (hn : size? P g.type = some (n + 1)) (hx : VRel ρ w x tx) :
    SimS P X ρ h w ((Instr.fieldAt s x f).run P w)
      (match (generalizing := false) tx with
      | .ptr b o v => .ok (.ptr b (o + g.offset) v) h
      | .pimm cs => .ok (.pimm (cs.drop g.offset)) h
      | _ => .fail) := by
  cases hx <;> try trivial
  · rename_i hL
    exact .pure I (v := .pointer (some ⟨_, _ + g.offset, none⟩)) (by simp [Instr.fieldAt, run_underlying hs, hf, Instr.sureAddr, fieldPlace, size?_run hn, addr_add]) (.ptr hL)
  · rename_i hC
    exact .pure I (v := .pointer (some ⟨_, _ + g.offset, none⟩)) (by simp [Instr.fieldAt, run_underlying hs, hf, Instr.sureAddr, fieldPlace, size?_run hn, addr_add]) (.pimm (hC.drop _))

/-- a part of an aggregate -/
theorem part_rel {t : TypeId} {g : Option Nat} {cs : Array Value} {l : List V} {off : Nat} {tv : V} (hg : agg? P t = some g) (hm : mkVal g (l.drop off) = some tv) (hv : VsRel ρ w cs.toList l) :
    ∃ v, (part t cs off).run P w = .ok v w ∧ VRel ρ w v tv := by
  have hd := hv.drop off
  cases g with
  | none =>
    have ha := agg?_cell hg w
    unfold mkVal at hm
    cases hl : l.drop off with
    | nil => rw [hl] at hm; simp at hm
    | cons x m =>
      rw [hl] at hm hd
      simp at hm
      subst hm
      generalize hcs : cs.toList.drop off = c' at hd
      cases hd with
      | cons h1 h2 =>
        rename_i v vs
        have : cs[off]? = some v := by
          have h0 : (cs.toList.drop off)[0]? = some v := by rw [hcs]; rfl
          simpa using h0
        exact ⟨v, by simp [part, ha, this], h1⟩
  | some n =>
    obtain ⟨hs, ha⟩ := agg?_agg hg
    simp only [mkVal, Option.map_eq_some_iff] at hm
    obtain ⟨l', hl, rfl⟩ := hm
    obtain ⟨rfl, hn⟩ := cut_eq n _ l' hl
    refine ⟨.agg (cs.extract off (off + n)), by simp [part, ha w, size?_run hs w], .agg ?_⟩
    have := hd.take n
    simpa [Array.toList_extract, List.extract_eq_take_drop] using this

theorem sim_field (I : Inv P X ρ h w) {s : TypeId} {fs : Array Field} {f : Nat} {g : Field} {ag : Option Nat} {x : Value} {tx : V} (hs : P.underlying s = some (.struct fs)) (hf : fs[f]? = some g) (hg : agg? P g.type = some ag) (hx : VRel ρ w x tx) :
    SimS P X ρ h w ((Instr.field s x f).run P w) (match (generalizing := false) tx with | .agg cs => o2r (mkVal ag (cs.drop g.offset)) h | _ => .fail) := by
  cases hx <;> try trivial
  rename_i cs l hv
  refine SimS.o2r fun tv hm => ?_
  obtain ⟨v, hrun, hrel⟩ := part_rel hg hm hv
  exact .pure I (v := v) (by simp [Instr.field, run_underlying hs, hf, asAgg, hrun]) hrel

theorem sim_iaddrS (I : Inv P X ρ h w) {t e : TypeId} {size : Nat} {x i : Value} {tx ti : V} (ht : P.underlying t = some (.slice e)) (hs : size? P e = some size) (hx : VRel ρ w x tx) (hi : VRel ρ w i ti) :
    SimS P X ρ h w ((Instr.indexAt t x i).run P w)
      (match (generalizing := false) tx, asNat ti with
      | .sl b off len _ sz ver _, some i => bif Nat.blt i len && Nat.beq sz size then .ok (.ptr b (off + i * size) ver) h else .fail
      | .simm cs len _, some i => bif Nat.blt i len && !cs.isEmpty then .ok (.pimm (cs.drop (i * size))) h else .fail
      | _, _ => .fail) := by
  cases hn : asNat ti with
  | none => cases tx <;> trivial
  | some n =>
    obtain ⟨k, rfl, rfl⟩ := asNat_rel hi hn
    cases hx <;> try trivial
    · rename_i b off len cap sz ver c r ex a g1 g2 g3 g4 g5 g6
      simp only [nbeq, nblt, Bool.cond_eq_ite, Bool.and_eq_true, decide_eq_true_eq]
      split
      · rename_i hc
        obtain ⟨hlt, rfl⟩ := hc
        obtain rfl := g2.resolve_left (by omega)
        refine .pure I (v := .pointer (some ⟨r, off + n * sz, none⟩)) ?_ (.ptr g1)
        have : (0 : Int) ≤ n ∧ (n : Int) < len := ⟨by omega, by omega⟩
        simp [Instr.indexAt, asIntOf, run_underlying ht, hlt, size?_run hs, addr_add]
      · trivial
    · rename_i len c ex a cs g1 g2 g3 g4
      simp only [nblt, Bool.cond_eq_ite, Bool.and_eq_true, decide_eq_true_eq]
      split
      · rename_i hc
        obtain ⟨hlt, hcs⟩ := hc
        have hi : (0 : Int) ≤ n ∧ (n : Int) < len := ⟨by omega, by omega⟩
        obtain ⟨ab, ao, as⟩ := a
        obtain rfl := g1 (by rintro rfl; simp at hcs)
        refine .pure I (v := .pointer (some ⟨ab, ao + n * size, none⟩)) ?_ (.pimm (g2.drop _))
        simp [Instr.indexAt, asIntOf, run_underlying ht, hlt, size?_run hs, addr_add]
      · trivial

theorem sim_iaddrA (I : Inv P X ρ h w) {t e : TypeId} {len size : Nat} {x i : Value} {tx ti : V} (ht : P.underlying t = some (.array len e)) (hs : size? P e = some size) (hx : VRel ρ w x tx) (hi : VRel ρ w i ti) :
    SimS P X ρ h w ((Instr.indexAt t x i).run P w)
      (match (generalizing := false) tx, asNat ti with
      | .ptr b off ver, some i => bif Nat.blt i len then .ok (.ptr b (off + i * size) ver) h else .fail
      | .pimm cs, some i => bif Nat.blt i len then .ok (.pimm (cs.drop (i * size))) h else .fail
      | _, _ => .fail) := by
  cases hn : asNat ti with
  | none => cases tx <;> trivial
  | some n =>
    obtain ⟨k, rfl, rfl⟩ := asNat_rel hi hn
    cases hx <;> try trivial
    · rename_i b off ver r hL
      simp only [nblt, Bool.cond_decide]
      split
      · rename_i hlt
        have hi : (0 : Int) ≤ n ∧ (n : Int) < len := ⟨by omega, by omega⟩
        exact .pure I (v := .pointer (some ⟨r, off + n * size, none⟩)) (by simp [Instr.indexAt, asIntOf, run_underlying ht, hlt, size?_run hs, addr_add, Instr.sureAddr]) (.ptr hL)
      · trivial
    · rename_i r o cs hC
      simp only [nblt, Bool.cond_decide]
      split
      · rename_i hlt
        have hi : (0 : Int) ≤ n ∧ (n : Int) < len := ⟨by omega, by omega⟩
        exact .pure I (v := .pointer (some ⟨r, o + n * size, none⟩)) (by simp [Instr.indexAt, asIntOf, run_underlying ht, hlt, size?_run hs, addr_add, Instr.sureAddr]) (.pimm (hC.drop _))
      · trivial

theorem sim_idxA (I : Inv P X ρ h w) {t e : TypeId} {len size : Nat} {ag : Option Nat} {x i : Value} {tx ti : V} (ht : P.underlying t = some (.array len e)) (hs : size? P e = some size) (hg : agg? P e = some ag) (hx : VRel ρ w x tx) (hi : VRel ρ w i ti) :
    SimS P X ρ h w ((Instr.index t x i).run P w)
      (match (generalizing := false) tx, asNat ti with
      | .agg cs, some i => bif Nat.blt i len then o2r (mkVal ag (cs.drop (i * size))) h else .fail
      | _, _ => .fail) := by
  cases hn : asNat ti with
  | none => cases tx <;> trivial
  | some n =>
    obtain ⟨k, rfl, rfl⟩ := asNat_rel hi hn
    cases hx <;> try trivial
    rename_i cs l hv
    simp only [nblt, Bool.cond_decide]
    split
    · rename_i hlt
      have hi : (0 : Int) ≤ n ∧ (n : Int) < len := ⟨by omega, by omega⟩
      refine SimS.o2r fun tv hm => ?_
      obtain ⟨v, hrun, hrel⟩ := part_rel hg hm hv
      exact .pure I (v := v) (by simp [Instr.index, asIntOf, run_underlying ht, hlt, size?_run hs, hrun]) hrel
    · trivial

theorem sim_idxS (I : Inv P X ρ h w) {t : TypeId} {x i : Value} {tx ti : V} (ht : P.underlying t = some .string) (hx : VRel ρ w x tx) (hi : VRel ρ w i ti) :
    SimS P X ρ h w ((Instr.index t x i).run P w)
      (match (generalizing := false) tx, asNat ti with
      | .str s, some i => (match (generalizing := false) s[i]? with | some n => .ok (.int .u8 n) h | none => .fail)
      | _, _ => .fail) := by
  cases hn : asNat ti with
  | none => cases tx <;> trivial
  | some n =>
    obtain ⟨k, rfl, rfl⟩ := asNat_rel hi hn
    cases hx <;> try trivial
    rename_i s
    simp only
    split
    · rename_i m hm
      have h1 : n < s.size := by
        have := (List.getElem?_eq_some_iff.1 hm).1
        simpa [bs] using this
      have h2 : m = s[n].toNat := by
        simp only [bs, List.getElem?_map, Option.map_eq_some_iff] at hm
        obtain ⟨u, hu, rfl⟩ := hm
        have : s.data.toList[n]? = some s[n] := by simp [ByteArray.getElem_eq_getElem_data]
        rw [this] at hu
        cases hu
        rfl
      subst h2
      exact .pure I (v := .int .u8 s[n].toNat) (by simp [Instr.index, asIntOf, run_underlying ht, h1]) (.int _ _)
    · trivial

theorem sim_assert (I : Inv P X ρ h w) {t xt : TypeId} {d : TypeDesc} {z x : Value} {tx : V} {ok : Bool} (ht : P.underlying t = some d) (hd : ∀ ms, d ≠ .interface ms) (hz : zero? P t = some z) (hx : VRel ρ w x tx) :
    SimS P X ρ h w ((Instr.typeAssert x xt t ok).run P w)
      (match (generalizing := false) tx with
      | .iface u v => if u = t then .ok (if ok then .tup [v, .bool true] else v) h else if ok then .ok (.tup [ofValue z, .bool false]) h else .fail
      | .nilIface => if ok then .ok (.tup [ofValue z, .bool false]) h else .fail
      | _ => .fail) := by
  have hzr := ofValue_rel ρ w z
  have two : ∀ {v : Value} {tv : V} {b : Bool}, VRel ρ w v tv → VRel ρ w (.tuple #[v, .bool b]) (.tup [tv, .bool b]) := fun hv => .tup (.cons hv (.cons (.bool _) .nil))
  cases hx <;> try trivial
  · rename_i u v tv hv
    by_cases hu : u = t
    · subst hu
      simp only [if_true]
      cases ok
      · refine .pure I (v := v) ?_ hv
        cases d <;> simp [Instr.typeAssert, run_underlying ht]
        exact absurd rfl (hd _)
      · refine .pure I (v := .tuple #[v, .bool true]) ?_ (two hv)
        cases d <;> simp [Instr.typeAssert, run_underlying ht]
        exact absurd rfl (hd _)
    · simp only [hu, if_false]
      cases ok
      · trivial
      · refine .pure I (v := .tuple #[z, .bool false]) ?_ (two hzr)
        cases d <;> simp [Instr.typeAssert, run_underlying ht, hu, zero?_run hz]
        exact absurd rfl (hd _)
  · cases ok
    · trivial
    · refine .pure I (v := .tuple #[z, .bool false]) ?_ (two hzr)
      cases d <;> simp [Instr.typeAssert, run_underlying ht, zero?_run hz]

theorem sim_extract (I : Inv P X ρ h w) {x : Value} {tx : V} {i : Nat} (hx : VRel ρ w x tx) : SimS P X ρ h w ((Instr.extract x i).run P w) (match (generalizing := false) tx with | .tup l => o2r l[i]? h | _ => .fail) := by
  cases hx <;> try trivial
  rename_i cs l hv
  refine SimS.o2r fun tv hm => ?_
  obtain ⟨v, h1, h2⟩ := hv.get i tv hm
  exact .pure I (v := v) (by simp at h1; simp [Instr.extract, h1]) h2

theorem sim_nilCheck (I : Inv P X ρ h w) {o : Oper} {a : Act} {x : Operand} {v : Value} {tx : V} (ho : o.op = .nilCheck x) (hv : a.eval x = v) (hx : VRel ρ w v tx) :
    SimS P X ρ h w (((execOp a.eval o).run P w).andThen fun n w' => match n with | .value v => .ok v w' | _ => .halt .blocked w')
      (match (generalizing := false) tx with
      | .ptr b o v => .ok (.ptr b o v) h
      | .pimm c => .ok (.pimm c) h
      | .func (.func f) a b => .ok (.func (.func f) a b) h
      | .iface t v => .ok (.iface t v) h
      | .agg l => .ok (.agg l) h
      | _ => .fail) := by
  cases hx <;> try trivial
  case ptr h1 => exact .pure I (by simp [execOp, ho, hv]) (.ptr h1)
  case pimm h1 => exact .pure I (by simp [execOp, ho, hv]) (.pimm h1)
  case func h1 h2 h3 =>
    cases h1
    · exact .pure I (by simp [execOp, ho, hv]) (.func (.func _) h2 h3)
    · trivial
  case iface h1 => exact .pure I (by simp [execOp, ho, hv]) (.iface h1)
  case agg h1 => exact .pure I (by simp [execOp, ho, hv]) (.agg h1)

end Go.E

namespace Go.E
variable {P : Program} {X : Nat → Prop} {ρ : Rn} {h : H} {w : World}

theorem sim_lenArr (I : Inv P X ρ h w) {a : Array TypeId} {T t : TypeId} {n : Nat} {e : TypeId} {x : Value} (ha : a[0]? = some t) (ht : P.underlying t = some (.array n e)) :
    SimS P X ρ h w ((Builtin.len_ a T #[x]).run P w) (.ok (.int .i64 n) h) :=
  .pure I (v := .int .i64 n) (by simp [Builtin.len_, ha, run_underlying ht, goInt]) (.int _ _)

theorem sim_lenArrP (I : Inv P X ρ h w) {a : Array TypeId} {T t u : TypeId} {n : Nat} {e : TypeId} {x : Value} (ha : a[0]? = some t) (ht : P.underlying t = some (.pointer u)) (hu : P.underlying u = some (.array n e)) :
    SimS P X ρ h w ((Builtin.len_ a T #[x]).run P w) (.ok (.int .i64 n) h) :=
  .pure I (v := .int .i64 n) (by simp [Builtin.len_, ha, run_underlying ht, run_underlying hu, goInt]) (.int _ _)

theorem bs_length (s : ByteArray) : (bs s).length = s.size := by simp [bs]

theorem sim_cap (I : Inv P X ρ h w) {a : Array TypeId} {T t e : TypeId} {x : Value} {tx : V} (ha : a[0]? = some t) (ht : P.underlying t = some (.slice e)) (hx : VRel ρ w x tx) :
    SimS P X ρ h w ((Builtin.cap_ a T #[x]).run P w)
      (match (generalizing := false) tx with
      | .snil => .ok (.int .i64 0) h
      | .sl _ _ _ cap _ _ true => .ok (.int .i64 cap) h
      | .simm _ len true => .ok (.int .i64 len) h
      | _ => .fail) := by
  cases hx <;> try trivial
  · exact .pure I (v := .int .i64 0) (by simp [Builtin.cap_, ha, run_underlying ht, goInt]) (.int _ _)
  · rename_i b off len cap sz ver c r ex ad g1 g2 g3 g4 g5 g6
    cases ex
    · trivial
    · obtain rfl := g3 rfl
      exact .pure I (v := .int .i64 c) (by simp [Builtin.cap_, ha, run_underlying ht, goInt]) (.int _ _)
  · rename_i len c ex ad cs g1 g2 g3 g4
    cases ex
    · trivial
    · obtain rfl := g3 rfl
      exact .pure I (v := .int .i64 c) (by simp [Builtin.cap_, ha, run_underlying ht, goInt]) (.int _ _)

theorem sim_lenStr (I : Inv P X ρ h w) {a : Array TypeId} {T t : TypeId} {x : Value} {tx : V} (ha : a[0]? = some t) (ht : P.underlying t = some .string) (hx : VRel ρ w x tx) :
    SimS P X ρ h w ((Builtin.len_ a T #[x]).run P w) (match (generalizing := false) tx with | .str s => .ok (.int .i64 s.length) h | _ => .fail) := by
  cases hx <;> try trivial
  rename_i s
  exact .pure I (v := .int .i64 s.size) (by simp [Builtin.len_, ha, run_underlying ht, goInt]) (by rw [bs_length]; exact .int _ _)

theorem sim_lenSl (I : Inv P X ρ h w) {a : Array TypeId} {T t e : TypeId} {x : Value} {tx : V} (ha : a[0]? = some t) (ht : P.underlying t = some (.slice e)) (hx : VRel ρ w x tx) :
    SimS P X ρ h w ((Builtin.len_ a T #[x]).run P w)
      (match (generalizing := false) tx with
      | .snil => .ok (.int .i64 0) h
      | .sl _ _ n _ _ _ _ => .ok (.int .i64 n) h
      | .simm _ n _ => .ok (.int .i64 n) h
      | _ => .fail) := by
  cases hx <;> try trivial
  all_goals exact .pure I (v := .int .i64 _) (by simp [Builtin.len_, ha, run_underlying ht, goInt]) (.int _ _)

/-- the numbers of a list of values, the greatest, the least -/
theorem sim_minmax (I : Inv P X ρ h w) {a : Array TypeId} {T : TypeId} {mx : Bool} : ∀ {l : List Value} {x : Value} {tl : List V} {tx : V}, VRel ρ w x tx → VsRel ρ w l tl →
    SimS P X ρ h w ((l.foldlM (if mx then Builtin.max2 else Builtin.min2) x).run P w) (o2r (tl.foldlM (fun a b => match a, b with
      | .int k m, .int _ n => some (.int k (if mx then (if n > m then n else m) else (if n < m then n else m)))
      | _, _ => none) tx) h)
  | [], x, [], tx, hx, _ => by
    refine SimS.o2r fun tv htv => ?_
    simp at htv
    subst htv
    exact .pure I (by simp) hx
  | y :: l, x, ty :: tl, tx, hx, .cons hy hl => by
    refine SimS.o2r fun tv htv => ?_
    simp only [List.foldlM_cons, Option.bind_eq_bind, Option.bind_eq_some_iff] at htv
    obtain ⟨tz, hz, htv⟩ := htv
    split at hz
    · cases hx; cases hy
      rename_i k m k' n
      cases hz
      have ih := sim_minmax I (a := a) (T := T) (mx := mx) (l := l) (x := .int k (if mx then (if n > m then n else m) else (if n < m then n else m))) (tl := tl) (.int _ _) hl
      rw [htv] at ih
      have e : ((if mx then Builtin.max2 else Builtin.min2) (.int k m) (.int k' n)).run P w = .ok (.int k (if mx then (if n > m then n else m) else (if n < m then n else m))) w := by
        cases mx <;> simp [Builtin.max2, Builtin.min2]
      simp only [List.foldlM_cons, Sem.run_bind, e, Result.andThen_ok]
      exact ih
    · cases hz

theorem sim_sliceData (I : Inv P X ρ h w) {a : Array TypeId} {T : TypeId} {x : Value} {tx : V} (hx : VRel ρ w x tx) :
    SimS P X ρ h w ((Builtin.unsafeSliceData_ a T #[x]).run P w)
      (match (generalizing := false) tx with
      | .snil => .ok .pnil h
      | .sl b off _ cap sz ver _ => bif Nat.beq cap 0 || !(Nat.beq sz 1) then .fail else .ok (.ptr b off ver) h
      | _ => .fail) := by
  cases hx <;> try trivial
  · exact .pure I (v := .pointer none) rfl .pnil
  · rename_i b off len cap sz ver c r ex ad g1 g2 g3 g4 g5 g6
    simp only [nbeq, Bool.cond_eq_ite, Bool.or_eq_true, decide_eq_true_eq]
    split
    · trivial
    · rename_i hc
      have hc0 : cap ≠ 0 := fun e => hc (.inl e)
      obtain rfl := g2.resolve_left (by omega)
      exact .pure I (v := .pointer (some ⟨r, off, none⟩)) (by
        have e : Builtin.unsafeSliceData_ a T #[.slice (some ⟨r, off, none⟩) len c] = (do
          if c ≠ 0 then pure (.pointer (some ⟨r, off, none⟩))
          else if (← viewAt r).isSome then pure (.pointer (some ⟨r, off, none⟩))
          else pure (.pointer (some ⟨← newObj (.view ⟨r, off, none⟩ (← elemOf T)), 0, none⟩)) : Sem Value) := rfl
        rw [e, if_pos (by omega)]
        rfl) (.ptr g1)

end Go.E

namespace Go.E
variable {P : Program} {X : Nat → Prop} {ρ : Rn} {h : H} {w : World}

/-- the cells of a slice or a string, read -/
theorem sliceCells_rel (I : Inv P X ρ h w) {size : Nat} {x : Value} {tx : V} {l : List V} (hx : VRel ρ w x tx) (hl : sliceCells h size tx = some l) (hX : ∀ b off len cap sz u ex, tx = .sl b off len cap sz u ex → X b) (h0 : size ≠ 0) :
    (∃ s, x = .string s ∧ tx = .str (bs s) ∧ size = 1 ∧ l = (bs s).map (fun (n : Nat) => V.int .u8 n)) ∨
    (x = .slice none 0 0 ∧ tx = .snil ∧ l = []) ∨
    (∃ a len c vs, x = .slice (some a) len c ∧ lenV tx = some len ∧ l.length = len * size ∧ VsRel ρ w vs l ∧ (len ≠ 0 → a.spot = none) ∧ ∀ (j : Nat) (v : Value), vs[j]? = some v → w.cell? ⟨a.block, a.off + j, none⟩ = some v) := by
  cases hx <;> simp only [sliceCells, reduceCtorEq] at hl
  case str s =>
    simp only [nbeq, Bool.cond_decide] at hl
    split at hl
    · rename_i h1
      exact .inl ⟨s, rfl, rfl, h1, (Option.some.inj hl).symm⟩
    · cases hl
  case snil => exact .inr (.inl ⟨rfl, rfl, (Option.some.inj hl).symm⟩)
  case sl b off len cap sz ver c r ex a g1 g2 g3 g4 g5 g6 =>
    simp only [nbeq, Bool.cond_decide] at hl
    split at hl
    · rename_i hsz
      subst hsz
      simp only [Option.bind_eq_some_iff] at hl
      obtain ⟨m, hm, hc⟩ := hl
      obtain ⟨rfl, hn⟩ := cut_eq _ _ _ hc
      obtain ⟨vs, hvs, hcell⟩ := own_read I (hX _ _ _ _ _ _ _ rfl) hm g1
      refine .inr (.inr ⟨a, len, c, vs.take (len * sz), rfl, rfl, by simp [hn], hvs.take _, ?_, fun j v hj => ?_⟩)
      · intro hlen
        rcases g2 with g2 | g2
        · omega
        · rw [g2]
      · have hlen : len ≠ 0 := by
          rintro rfl
          simp at hj
        rcases g2 with g2 | g2
        · omega
        · subst g2
          rw [List.getElem?_take] at hj
          split at hj
          · exact hcell j v hj
          · cases hj
    · cases hl
  case simm len c ex a cs g1 g2 g3 g4 =>
    obtain ⟨rfl, hn⟩ := cut_eq _ _ _ hl
    obtain ⟨vs, hvs, hcell⟩ := (g2.take (len * size)).read
    refine .inr (.inr ⟨a, len, c, vs, rfl, rfl, by simp [hn], hvs, fun hlen => g1 ?_, hcell⟩)
    rintro rfl
    simp only [List.length_nil, Nat.le_zero_eq, Nat.mul_eq_zero] at hn
    omega

theorem asNats_rel : ∀ {vs : List Value} {l : List V} {s : List Nat}, VsRel ρ w vs l → l.mapM asNat = some s → ∃ ks : List (IntKind × Nat), vs = ks.map (fun p => .int p.1 (p.2 : Int)) ∧ s = ks.map (·.2)
  | _, _, s, .nil, h => by simp at h; subst h; exact ⟨[], rfl, rfl⟩
  | _, _, s, .cons (t := t) (ts := ts) h1 h2, h => by
    simp only [List.mapM_cons, Option.bind_eq_bind, Option.bind_eq_some_iff, Option.pure_def, Option.some.injEq] at h
    obtain ⟨n, hn, m, hm, rfl⟩ := h
    obtain ⟨k, rfl, _⟩ := asNat_rel h1 hn
    obtain ⟨ks, rfl, rfl⟩ := asNats_rel h2 hm
    exact ⟨(k, n) :: ks, rfl, rfl⟩

theorem asBytes_rel : ∀ {vs : List Value} {l : List V} {s : List Nat}, VsRel ρ w vs l → l.mapM asByte = some s → vs = s.map (fun n => .int .u8 (n : Int)) ∧ ∀ n ∈ s, n < 256
  | _, _, s, .nil, h => by simp at h; subst h; exact ⟨rfl, by simp⟩
  | _, _, s, .cons (t := t) (ts := ts) h1 h2, h => by
    simp only [List.mapM_cons, Option.bind_eq_bind, Option.bind_eq_some_iff, Option.pure_def, Option.some.injEq] at h
    obtain ⟨n, hn, m, hm, rfl⟩ := h
    obtain ⟨rfl, hall⟩ := asBytes_rel h2 hm
    unfold asByte at hn
    split at hn
    · cases h1
      split at hn
      · rename_i hb
        cases hn
        refine ⟨by simp [Int.toNat_of_nonneg hb.1], fun k hk => ?_⟩
        rcases List.mem_cons.1 hk with rfl | hk
        · omega
        · exact hall k hk
      · cases hn
    · cases hn

theorem bs_of_nats (s : List Nat) (h : ∀ n ∈ s, n < 256) : bs ⟨(s.map (fun n => UInt8.ofNat n)).toArray⟩ = s := by
  simp only [bs, List.map_map]
  conv => rhs; rw [← List.map_id s]
  refine List.map_congr_left fun n hn => ?_
  simp [UInt8.toNat_ofNat', Nat.mod_eq_of_lt (h n hn)]

theorem sim_toStr (I : Inv P X ρ h w) {s d e : TypeId} {x : Value} {tx : V} (hs : P.underlying s = some (.slice e)) (he : P.underlying e = some (.int .u8)) (hd : P.underlying d = some .string) (hx : VRel ρ w x tx)
    (hX : ∀ b off len cap sz u ex, tx = .sl b off len cap sz u ex → X b) :
    SimS P X ρ h w ((convert s d x).run P w) (o2r ((match (generalizing := false) tx with | .str _ => none | v => sliceCells h 1 v).bind fun cs => (cs.mapM asByte).map .str) h) := by
  refine SimS.o2r fun tv htv => ?_
  simp only [Option.bind_eq_some_iff, Option.map_eq_some_iff] at htv
  obtain ⟨cs, hcs, l, hl, rfl⟩ := htv
  have hcs' : sliceCells h 1 tx = some cs := by cases tx <;> first | exact hcs | cases hcs
  rcases sliceCells_rel I hx hcs' hX (by decide) with ⟨s, rfl, rfl, _, _⟩ | ⟨rfl, rfl, rfl⟩ | ⟨a, len, c, vs, rfl, _, hlen, hvs, hsp, hcell⟩
  · cases hcs
  · simp at hl
    subst hl
    exact .pure I (v := .string .empty) (by rw [run_convert_bytes_string w s d e _ _ _ hs he hd]; rfl) (.str _)
  · obtain ⟨rfl, hb⟩ := asBytes_rel hvs hl
    have hn : l.length = len := by
      have := hvs.length
      simp at this
      omega
    have hload : (loadCells a len).run P w = .ok ((l.map fun (n : Nat) => (n : Int)).map (Value.int .u8)).toArray w := by
      rw [List.map_map]
      cases hz : len with
      | zero =>
        have : l = [] := List.length_eq_zero_iff.1 (by omega)
        subst this
        simp [loadCells, loadCellsFrom]
      | succ m =>
        obtain ⟨ab, ao, as⟩ := a
        obtain rfl := hsp (by omega)
        have := run_loadCells_list (P := P) w ⟨ab, ao, none⟩ (l.map fun (n : Nat) => Value.int .u8 (n : Int)) (fun j v hj => by rw [addr_add]; exact hcell j v hj)
        rw [List.length_map, hn, hz] at this
        exact this
    refine .pure I (v := .string _) (by rw [run_convert_bytes_string w s d e _ _ _ hs he hd, run_bytesToString w a len c _ hload]) ?_
    have key : bs (List.foldl (fun r (n : Int) => r.push (UInt8.ofNat n.toNat)) ByteArray.empty (l.map fun (n : Nat) => (n : Int))) = l := by
      rw [foldl_push_bytes]
      have h2 := bs_of_nats l hb
      simp only [bs] at h2 ⊢
      rw [List.map_map, Array.toList_append]
      exact h2
    have fin := VRel.str (ρ := ρ) (w := w) (List.foldl (fun r (n : Int) => r.push (UInt8.ofNat n.toNat)) ByteArray.empty (l.map fun (n : Nat) => (n : Int)))
    rw [key] at fin
    exact fin

end Go.E

namespace Go.E
variable {P : Program} {X : Nat → Prop} {ρ : Rn} {h : H} {w : World}

/-! ### Worlds with one memory -/
theorem VRel.heap {w' : World} (hh : w'.heap = w.heap) : Keeps ρ w ρ w' where
  L := fun h => h
  S := fun h => h
  cell := fun _ hc => by simpa [World.cell?, hh] using hc
  shape := fun h => ⟨_, _, by rw [hh]; exact h, rfl⟩
  maps := fun h => ⟨_, _, by rw [hh]; exact h, fun e he => ⟨e, he, rfl, fun _ hk => hk⟩⟩

theorem Post.heap {w' : World} (hh : w'.heap = w.heap) (hw : w'.os = w.os ∧ w'.output = w.output ∧ w'.tape = w.tape) : Post ρ h w ρ h w' where
  keeps := VRel.heap hh
  grows := by rw [hh]; exact Nat.le_refl _
  size := Nat.le_refl _
  mark := rfl
  told := fun _ hb => hb
  newL := fun h1 h2 => by rw [h1] at h2; cases h2
  newS := fun h => .inl h
  rest := fun _ _ => by rw [hh]
  same := fun _ _ => rfl
  world := hw

theorem Inv.heap {w' : World} (I : Inv P X ρ h w) (hh : w'.heap = w.heap) (hw : w'.os = w.os ∧ w'.output = w.output ∧ w'.tape = w.tape) : Inv P X ρ h w' where
  dom := I.dom
  fresh := I.fresh
  inj := I.inj
  lt := fun hv => by rw [hh]; exact I.lt hv
  slt := fun hv => by rw [hh]; exact I.slt hv
  mark := I.mark
  stab := I.stab
  vers := I.vers
  blk := fun hx hg hL => BRel.post (Post.heap hh hw : Post ρ h w ρ h w') (by rw [hh]) (I.blk hx hg hL)

theorem I_drew (I : Inv P X ρ h w) : Inv P X ρ h w.drew := I.heap rfl ⟨rfl, rfl, rfl⟩
theorem P_drew : Post ρ h w ρ h w.drew := Post.heap rfl ⟨rfl, rfl, rfl⟩

theorem byteCells_rel (s : ByteArray) : VsRel ρ w (byteCells s) ((bs s).map fun (n : Nat) => V.int .u8 n) := by
  unfold byteCells bs
  generalize s.data.toList = l
  induction l with
  | nil => exact .nil
  | cons b l ih => exact .cons (.int _ _) ih

/-- what is appended -/
theorem src_of (I : Inv P X ρ h w) {tx : TypeId} {size : Nat} {y : Value} {ty : V} {new : List V} {k : Nat} (hk : (∃ e', P.underlying tx = some (.slice e')) ∨ P.underlying tx = some .string) (hy : VRel ρ w y ty)
    (hn : sliceCells h size ty = some new) (hl : lenV ty = some k) (hX : ∀ b off len cap sz u ex, ty = .sl b off len cap sz u ex → X b) (h0 : size ≠ 0) (hok : new.all V.okCell = true) :
    ∃ news, Src P size tx y k news w ∧ VsRel ρ w news new := by
  rcases sliceCells_rel I hy hn hX h0 with ⟨s, rfl, rfl, rfl, rfl⟩ | ⟨rfl, rfl, rfl⟩ | ⟨a, len, c, vs, rfl, h1, h2, h3, h4, h5⟩
  · simp only [lenV, Option.some.injEq] at hl
    subst hl
    refine ⟨byteCells s, ?_, byteCells_rel s⟩
    rw [bs_length]
    exact ⟨hk, fun _ => rfl, firstCells_string s w, firstCells_string s w.drew, by rw [byteCells_length, Nat.mul_one], fun u hu => by
      obtain ⟨_, _, rfl⟩ := List.mem_map.1 hu
      rfl⟩
  · cases hl
    exact ⟨[], ⟨hk, fun _ => rfl, rfl, rfl, by simp, by simp⟩, .nil⟩
  · rw [h1] at hl
    cases hl
    have hlen : vs.length = k * size := h3.length.trans h2
    refine ⟨vs, ?_, h3⟩
    cases k with
    | zero =>
      have : vs = [] := List.length_eq_zero_iff.1 (by omega)
      subst this
      exact ⟨hk, fun _ => rfl, run_firstCells_some w size 0 a 0 c [] (by simp) (by simp), run_firstCells_some w.drew size 0 a 0 c [] (by simp) (by simp), by simp, by simp⟩
    | succ m =>
      obtain ⟨ab, ao, as⟩ := a
      obtain rfl := h4 (by omega)
      have hc : ∀ (j : Nat) (u : Value), vs[j]? = some u → w.cell? ((⟨ab, ao, none⟩ : Addr).add j) = some u := fun j u hj => by rw [addr_add]; exact h5 j u hj
      exact ⟨hk, fun _ => rfl, run_firstCells_some w size _ _ _ c vs hlen hc, run_firstCells_some w.drew size _ _ _ c vs hlen (by simpa using hc), hlen, okCells_one h3 hok⟩

/-- the cells that a slice has, read behind a draw -/
theorem olds_of (I : Inv P X ρ h w) {size : Nat} {y : Value} {ty : V} {old : List V} (hy : VRel ρ w y ty) (hk : match ty with | .str _ => False | _ => True)
    (hn : sliceCells h size ty = some old) (hX : ∀ b off len cap sz u ex, ty = .sl b off len cap sz u ex → X b) (h0 : size ≠ 0) :
    ∃ base len c olds, y = .slice base len c ∧ lenV ty = some len ∧ (Builtin.firstCells size len (.slice base len c)).run P w.drew = .ok olds.toArray w.drew ∧ VsRel ρ w olds old := by
  rcases sliceCells_rel I hy hn hX h0 with ⟨s, rfl, rfl, rfl, rfl⟩ | ⟨rfl, rfl, rfl⟩ | ⟨a, len, c, vs, rfl, h1, h2, h3, h4, h5⟩
  · exact hk.elim
  · exact ⟨none, 0, 0, [], rfl, rfl, rfl, .nil⟩
  · have hlen : vs.length = len * size := h3.length.trans h2
    refine ⟨some a, len, c, vs, rfl, h1, ?_, h3⟩
    cases len with
    | zero =>
      have : vs = [] := List.length_eq_zero_iff.1 (by omega)
      subst this
      exact run_firstCells_some w.drew size 0 a 0 c [] (by simp) (by simp)
    | succ m =>
      obtain ⟨ab, ao, as⟩ := a
      obtain rfl := h4 (by omega)
      have hc : ∀ (j : Nat) (u : Value), vs[j]? = some u → w.cell? ((⟨ab, ao, none⟩ : Addr).add j) = some u := fun j u hj => by rw [addr_add]; exact h5 j u hj
      exact run_firstCells_some w.drew size _ _ _ c vs hlen (by simpa using hc)

/-- A new row of cells, more behind them than the plain run knows of. -/
theorem push_row (I : Inv P X ρ h w) {cs : List V} {vs : List Value} {rest : Array Value} {e : TypeId} (hv : VsRel ρ w vs cs) :
    ∃ ρ', ρ'.L h.size cs.length = some w.heap.size ∧ Inv P (fun b => X b ∨ h.size ≤ b) ρ' (h.push (.cells cs e 1 0)) (w.drew.alloc (.cells (vs.toArray ++ rest) e)) ∧ Post ρ h w ρ' (h.push (.cells cs e 1 0)) (w.drew.alloc (.cells (vs.toArray ++ rest) e)) := by
  have hlen := hv.length
  obtain ⟨I', p, hL⟩ := (I_drew I).push (blk := .cells cs e 1 0) (o := .cells (vs.toArray ++ rest) e) (fun ρ' _ K => by
    refine ⟨_, (0, 0), by rw [alloc_heap, if_pos rfl], by simp; omega, fun h => absurd h (by decide), ?_, .inl rfl⟩
    have : (vs.toArray ++ rest).toList.take cs.length = vs := by simp [← hlen]
    rw [this]
    exact hv.keep ((VRel.heap (w := w) (w' := w.drew) rfl).trans K))
  exact ⟨_, hL, I', P_drew.trans p⟩

theorem room_fits {n c b : Nat} (hg : c < n) (hr : roomy n b = true) : Builtin.nextslicecap n c * b ≤ 281474976710656 := by
  have h1 : Builtin.nextslicecap n c * b ≤ 2 * n * b := Nat.mul_le_mul_right _ (nextslicecap_le hg)
  simp only [roomy, nble, decide_eq_true_eq] at hr
  have : 2 * n * b = 2 * (n * b) := Nat.mul_assoc _ _ _
  omega

theorem roomy_63 {n b : Nat} (hb : b ≠ 0) (hr : roomy n b = true) : ((n : Nat) : Int) ≤ 9223372036854775807 := by
  simp only [roomy, nble, decide_eq_true_eq] at hr
  have : n ≤ n * b := Nat.le_mul_of_pos_right _ (by omega)
  omega

/-- append into a new row, whatever the slice was -/
theorem grow_sim (I : Inv P X ρ h w) {t tx T e : TypeId} {i : TypeInfo} {z : Value} (ht : P.underlying t = some (.slice e)) (hi : P.info? e = some i) (hz : i.zero = some z) (hzs : z.cells.size = i.size) {base : Option Addr} {len c k : Nat} {olds news : List Value} {old new : List V} {y : Value}
    (hold : (Builtin.firstCells i.size len (.slice base len c)).run P w.drew = .ok olds.toArray w.drew) (ho : VsRel ρ w olds old) (hs : Src P i.size tx y k news w) (hn : VsRel ρ w news new) (hg : c < len + k) (hb : i.bytes ≠ 0) (hr : roomy (len + k) i.bytes = true)
    (hsz : (old ++ new).length = (len + k) * i.size) :
    SimS P X ρ h w ((Builtin.append_ #[t, tx] T #[.slice base len c, y]).run P w) (.ok (.sl h.size 0 (len + k) (len + k) i.size (old ++ new).length false) (h.push (.cells (old ++ new) e 1 0))) := by
  have hrun := run_append_grow_src (P := P) w t tx T e i z ht hi hz base len c olds hold y k news hs hg (roomy_63 hb hr) (room_fits hg hr)
  obtain ⟨ρ', hL, I', p⟩ := push_row (e := e) (rest := Builtin.zeroCells z.cells (grownCap w (len + k) c e - (len + k))) I (ho.append hn)
  have hge := grownCap_ge w (len + k) c e
  refine ⟨_, _, ρ', hrun, ?_, I', p⟩
  refine .sl (r := w.heap.size) hL (.inr rfl) (fun h => by cases h) hge (Nat.le_refl _) ⟨_, _, _, by rw [alloc_heap]; exact if_pos rfl, ?_⟩
  have h1 : (olds ++ news).length = (len + k) * i.size := (ho.append hn).length.trans hsz
  have h2 : (len + k) * i.size + (grownCap w (len + k) c e - (len + k)) * i.size = grownCap w (len + k) c e * i.size := by rw [← Nat.add_mul]; congr 1; omega
  simp only [Array.size_append, List.size_toArray, size_zeroCells, hzs, h1, Nat.zero_add]
  omega

/-- append onto a row's spare cells -/
theorem room_sim (I : Inv P X ρ h w) {t tx T e : TypeId} {i : TypeInfo} (ht : P.underlying t = some (.slice e)) (hi : P.info? e = some i) {b off len c k u r : Nat} {news : List Value} {new : List V} {y : Value} {h' : H}
    (hX : X b) (hL : ρ.L b u = some r) (hs : Src P i.size tx y k news w) (hn : VsRel ρ w news new) (hroom : len + k ≤ c) (hw : writeAt h b (off + len * i.size) u new = some h') :
    ∃ w', (Builtin.append_ #[t, tx] T #[.slice (some ⟨r, off, none⟩) len c, y]).run P w = .ok (.slice (some ⟨r, off, none⟩) (len + k) c) w' ∧ Inv P (fun b => X b ∨ h.size ≤ b) ρ h' w' ∧ Post ρ h w ρ h' w' := by
  obtain ⟨w', hst, I', p⟩ := own_write I hX hw hL hn
  refine ⟨w', ?_, I', p⟩
  rcases hs.kind with ⟨e', hk⟩ | hk <;> simp [Builtin.append_, run_underlying ht, run_underlying hk, sizeOf, typeInfo, hi, hs.len, hroom, hs.cells, addr_add, hst]

/-- append of nothing -/
theorem none_sim (I : Inv P X ρ h w) {t tx T e : TypeId} {i : TypeInfo} (ht : P.underlying t = some (.slice e)) (hi : P.info? e = some i) {base : Option Addr} {len c : Nat} {news : List Value} {y : Value} {tv : V} (hs : Src P i.size tx y 0 news w) (hc : len ≤ c)
    (hv : VRel ρ w (.slice base len c) tv) :
    SimS P X ρ h w ((Builtin.append_ #[t, tx] T #[.slice base len c, y]).run P w) (.ok tv h) := by
  have hnil : news = [] := List.length_eq_zero_iff.1 (by have := hs.newsLen; simpa using this)
  subst hnil
  refine .pure I (v := .slice base len c) ?_ hv
  have hcl := hs.cells
  cases base <;> rcases hs.kind with ⟨e', hk⟩ | hk <;> simp [Builtin.append_, run_underlying ht, run_underlying hk, sizeOf, typeInfo, hi, hs.len, hc, hcl, storeCells]

theorem setVs_take : ∀ (xs : List Value) (c : Array Value) (o : Nat), o + xs.length ≤ c.size → (setVs c o xs).toList.take (o + xs.length) = c.toList.take o ++ xs
  | [], c, o, _ => by simp [setVs]
  | v :: l, c, o, h => by
    simp only [List.length_cons] at h
    have ih := setVs_take l (c.setIfInBounds o v) (o + 1) (by simp; omega)
    rw [setVs, List.length_cons, show o + (l.length + 1) = o + 1 + l.length by omega, ih, Array.toList_setIfInBounds]
    have h1 : (c.toList.set o v).take (o + 1) = c.toList.take o ++ [v] := by
      have hlt : o < c.toList.length := by simp; omega
      rw [List.take_add_one]
      have h2 : (c.toList.set o v).take o = c.toList.take o := by
        apply List.ext_getElem?
        intro j
        simp only [List.getElem?_take, List.getElem?_set]
        split
        · rw [if_neg (by omega)]
        · rfl
      have h3 : (c.toList.set o v)[o]? = some v := by
        rw [List.getElem?_set]
        simp at hlt
        simp [hlt]
      rw [h2, h3]
      rfl
    rw [h1]
    simp

/-- A block's contents are laid anew, and longer: in its own row, or in a new one. -/
theorem Inv.grow {w' : World} (I : Inv P X ρ h w) {b r r' : Nat} {blk blk' : Blk} (hX : X b) (hg : h.get b = some blk) (hL : ρ.L b (ver blk) = some r) (hver : ver blk < ver blk')
    (hr' : r' = r ∨ w.heap.size ≤ r') (hlt : r' < w'.heap.size) (hsize : w.heap.size ≤ w'.heap.size) (hw : ∀ r₂, r₂ < w.heap.size → r₂ ≠ r → w'.heap[r₂]? = w.heap[r₂]?) (K : Keeps ρ w ρ w')
    (hworld : w'.os = w.os ∧ w'.output = w.output ∧ w'.tape = w.tape) (hst : ∀ o, ρ.S r' o → ∃ cs e g frz, blk' = .cells cs e g frz ∧ o < frz)
    (hb : ∀ ρ', ρ' = ρ.at b (ver blk') r' → Keeps ρ w ρ' w' → BRel P ρ' w' r' blk') :
    Inv P (fun b => X b ∨ h.size ≤ b) (ρ.at b (ver blk') r') (h.put b blk') w' ∧ Post ρ h w (ρ.at b (ver blk') r') (h.put b blk') w' := by
  have hnone : ρ.L b (ver blk') = none := by
    cases hq : ρ.L b (ver blk') with
    | none => rfl
    | some q => have := I.vers hX hg hq; omega
  have hL1 : ∀ {b₂ v q : Nat}, ρ.L b₂ v = some q → (ρ.at b (ver blk') r').L b₂ v = some q := fun {b₂ v q} hv => by
    simp only [Rn.at]
    split
    · rename_i e; obtain ⟨rfl, rfl⟩ := e; rw [hnone] at hv; cases hv
    · exact hv
  have hL2 : ∀ {b₂ v q : Nat}, (ρ.at b (ver blk') r').L b₂ v = some q → (b₂ = b ∧ v = ver blk' ∧ q = r') ∨ ρ.L b₂ v = some q := fun {b₂ v q} hv => by
    simp only [Rn.at] at hv
    split at hv
    · rename_i e; cases hv; exact .inl ⟨e.1, e.2, rfl⟩
    · exact .inr hv
  have K' : Keeps ρ w (ρ.at b (ver blk') r') w' := { L := hL1, S := fun h => h, cell := K.cell, shape := K.shape, maps := K.maps }
  have p : Post ρ h w (ρ.at b (ver blk') r') (h.put b blk') w' := {
    keeps := K'
    grows := hsize
    size := Nat.le_refl _
    mark := rfl
    told := fun x hx => by rw [H.wr_put]; split <;> simp [hx]
    newL := fun {b₂ v q} h1 h2 => by
      rcases hL2 h1 with ⟨rfl, rfl, rfl⟩ | h3
      · refine .inr ⟨?_, _, r, hL, hr'.symm⟩
        rw [H.wr_put]
        rcases Nat.lt_or_ge b₂ h.mark with hm | hm
        · rw [if_pos hm]; exact .inl (by simp)
        · exact .inr hm
      · rw [h3] at h2; cases h2
    newS := fun h => .inl h
    rest := fun {r₂} hr₂ hb' => hw r₂ hr₂ (fun e => by
      subst e
      have := hb' b _ hL
      rw [H.wr_put, if_pos this.1] at this
      exact this.2 (by simp))
    same := fun {x} hx hn => by
      rw [H.get_put]
      split
      · rename_i e
        subst e
        rw [H.wr_put, if_pos hx] at hn
        exact absurd (by simp) hn
      · rfl
    world := hworld }
  have hdom := I.dom hg
  refine ⟨{ dom := ?_, fresh := ?_, inj := ?_, lt := ?_, slt := fun hS => Nat.lt_of_lt_of_le (I.slt hS) hsize, mark := I.mark, stab := ?_, vers := ?_, blk := ?_ }, p⟩
  · intro b₂ x hx
    rw [H.get_put] at hx
    split at hx
    · rename_i e; subst e; exact hdom
    · exact I.dom hx
  · intro b₂ v h1
    cases hq : (ρ.at b (ver blk') r').L b₂ v with
    | none => rfl
    | some q =>
      simp only [H.size_put] at h1
      rcases hL2 hq with ⟨rfl, _, _⟩ | h3
      · omega
      · rw [I.fresh h1] at h3; cases h3
  · intro b₁ v₁ b₂ v₂ q h1 h2
    have same : ∀ {b₂ v₂ : Nat}, ρ.L b₂ v₂ = some r' → b₂ = b := fun hq => by
      rcases hr' with e | e
      · subst e; exact I.inj hq hL
      · exact absurd (I.lt hq) (by omega)
    rcases hL2 h1 with ⟨rfl, _, rfl⟩ | h3 <;> rcases hL2 h2 with ⟨rfl, _, e⟩ | h4
    · rfl
    · exact (same h4).symm
    · subst e; exact same h3
    · exact I.inj h3 h4
  · intro b₂ v q hv
    rcases hL2 hv with ⟨_, _, rfl⟩ | h3
    · exact hlt
    · exact Nat.lt_of_lt_of_le (I.lt h3) hsize
  · intro b₂ x q o hX' hx hq hS
    rw [H.get_put] at hx
    split at hx
    · rename_i e
      subst e
      cases hx
      rcases hL2 hq with ⟨_, _, rfl⟩ | h3
      · exact hst o hS
      · rw [hnone] at h3; cases h3
    · rename_i hne
      rcases hL2 hq with ⟨e, _, _⟩ | h3
      · exact absurd e hne
      · exact I.stab (hX'.resolve_right (by have := I.dom hx; omega)) hx h3 hS
  · intro b₂ x v q hX' hx hq
    rw [H.get_put] at hx
    split at hx
    · rename_i e
      subst e
      cases hx
      rcases hL2 hq with ⟨_, rfl, _⟩ | h3
      · exact Nat.le_refl _
      · exact Nat.le_of_lt (Nat.lt_of_le_of_lt (I.vers hX hg h3) hver)
    · rename_i hne
      rcases hL2 hq with ⟨e, _, _⟩ | h3
      · exact absurd e hne
      · exact I.vers (hX'.resolve_right (by have := I.dom hx; omega)) hx h3
  · intro b₂ x q hX' hx hq
    rw [H.get_put] at hx
    split at hx
    · rename_i e
      subst e
      cases hx
      rcases hL2 hq with ⟨_, _, rfl⟩ | h3
      · exact hb _ rfl K'
      · rw [hnone] at h3; cases h3
    · rename_i hne
      rcases hL2 hq with ⟨e, _, _⟩ | h3
      · exact absurd e hne
      · exact BRel.post p (hw q (I.lt h3) (fun e => hne (by subst e; exact I.inj h3 hL))) (I.blk (hX'.resolve_right (by have := I.dom hx; omega)) hx h3)

/-- The contents of a block that may have more cells behind those that are known, laid anew and longer: the same row. -/
theorem grow_put (I : Inv P X ρ h w) {b r : Nat} {cs new : List V} {e : TypeId} {kd frz o : Nat} {xs : List Value} (hX : X b) (hg : h.get b = some (.cells cs e kd frz)) (hk : 0 < kd) (hL : ρ.L b cs.length = some r) (hfrz : frz ≤ o) (ho : o ≤ cs.length) (hgt : cs.length < o + new.length)
    (hv : VsRel ρ w xs new) (hok : new.all V.okCell = true) (hroom : ∀ c e f, w.heap[r]? = some (.cells c e f) → o + new.length ≤ c.size) :
    ∃ w' ρ', (storeCells ⟨r, o, none⟩ xs).run P w = .ok () w' ∧ ρ'.L b (cs.take o ++ new).length = some r ∧ Inv P (fun b => X b ∨ h.size ≤ b) ρ' (h.put b (.cells (cs.take o ++ new) e kd frz)) w' ∧ Post ρ h w ρ' (h.put b (.cells (cs.take o ++ new) e kd frz)) w' := by
  obtain ⟨c, f, hw, hle, _, hrel, hfz⟩ := I.blk hX hg hL
  have hlen := hv.length
  have hro := hroom _ _ _ hw
  have hcell : ∀ j, w.cell? ⟨r, j, none⟩ = c[j]? := fun j => by simp [World.cell?, hw]
  have hrun := run_storeCells_cells (P := P) r o xs 0 w (fun j hj => by rw [hcell]; simp; omega) (fun j hj => by
    simp only [World.frozen?, hw]
    cases hd : decide (f.1 ≤ o + 0 + j) && decide (o + 0 + j < f.2) with
    | false => rfl
    | true =>
      simp at hd
      omega) (okCells_one hv hok)
  obtain ⟨g1, g2, g3, g4⟩ := setCells_heap xs w r o c e f hw
  have hlt : r < w.heap.size := I.lt hL
  have hother : ∀ r', r' ≠ r → (w.setCells r o xs).heap[r']? = w.heap[r']? := fun r' hr' => by
    rw [g1, Array.getElem?_setIfInBounds]; simp [Ne.symm hr']
  have hsame : (w.setCells r o xs).heap[r]? = some (.cells (setVs c o xs) e f) := by rw [g1]; simp [hlt]
  have K : Keeps ρ w ρ (w.setCells r o xs) := {
    L := fun h => h
    S := fun h => h
    cell := fun {r' o' x} hS hc => by
      rw [← hc]
      refine World.cell?_setCells_out r xs o w _ (fun e1 _ => ?_)
      simp only at e1
      subst e1
      obtain ⟨_, _, _, _, e2, hlt⟩ := I.stab hX hg hL hS
      cases e2
      exact .inl (by simp; omega)
    shape := fun {r' c' e' f'} hh => by
      by_cases hr' : r' = r
      · subst hr'
        rw [hw] at hh
        cases hh
        exact ⟨_, _, hsame, size_setVs xs c o⟩
      · exact ⟨_, _, (hother r' hr').trans hh, rfl⟩
    maps := fun {r' es cl} hh => by
      have hr' : r' ≠ r := fun e1 => by subst e1; rw [hw] at hh; cases hh
      exact ⟨_, _, (hother r' hr').trans hh, fun e he => ⟨e, he, rfl, fun _ hk => hk⟩⟩ }
  have hnl : (cs.take o ++ new).length = o + new.length := by simp; omega
  have fin := I.grow (blk' := .cells (cs.take o ++ new) e kd frz) (r' := r) (w' := w.setCells r o xs) hX hg hL (by simp only [ver, hnl]; exact hgt) (.inl rfl) (by rw [g1]; simpa using hlt) (by rw [g1]; simp) (fun r₂ _ hne => hother r₂ hne) K ⟨g2, g3, g4⟩
    (fun o' hS => by
      obtain ⟨_, _, _, _, e2, hlt⟩ := I.stab hX hg hL hS
      cases e2
      exact ⟨_, _, _, _, rfl, hlt⟩)
    (fun ρ' _ K' => by
      refine ⟨_, _, hsame, by rw [size_setVs, hnl]; exact hro, fun h0 => by omega, ?_, by rw [size_setVs]; exact hfz⟩
      have h1 : VsRel ρ' (w.setCells r o xs) ((setVs c o xs).toList.take (cs.take o ++ new).length) (cs.take o ++ new) := by
        have hx : (setVs c o xs).toList.take (cs.take o ++ new).length = c.toList.take o ++ xs := by
          have hl : (cs.take o ++ new).length = o + xs.length := by rw [hnl, hlen]
          rw [hl]
          exact setVs_take xs c o (by omega)
        rw [hx]
        have h2 := (hrel.take o).keep K'
        rw [List.take_take, Nat.min_eq_left ho] at h2
        exact h2.append (hv.keep K')
      exact h1)
  refine ⟨_, _, by simpa using hrun, Rn.at_self _ _ _ _, fin.1, fin.2⟩

end Go.E
