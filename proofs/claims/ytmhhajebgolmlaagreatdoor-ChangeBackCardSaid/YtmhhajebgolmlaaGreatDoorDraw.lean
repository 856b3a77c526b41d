/- Regions whose order the model draws. -/
import Derived.Test.YtmhhajebgolmlaaGreatDoorCodeA
import Derived.Test.YtmhhajebgolmlaaGreatDoorRel
set_option linter.unusedSimpArgs false
set_option linter.unusedVariables false
namespace Go.E
variable {P : Program} {C : Ctx} {call : E.Call}

/-! ### An operation looks at its operands alone -/
theorem fillP_congr {env env' : Env} : ∀ (ps : List (Nat × Nat × Opd)) (cs : List V), (∀ x ∈ ps.map (·.2.2), x.get C env = x.get C env') → fillP C env cs ps = fillP C env' cs ps
  | [], _, _ => rfl
  | (off, size, x) :: ps, cs, h => by
    simp only [List.map_cons, List.mem_cons, forall_eq_or_imp] at h
    simp only [fillP, h.1]
    split
    · rw [fillP_congr ps _ h.2]
    · rfl

theorem map_congr {env env' : Env} (xs : List Opd) (h : ∀ x ∈ xs, x.get C env = x.get C env') : xs.map (·.get C env) = xs.map (·.get C env') := List.map_congr_left h

theorem optNat_congr {env env' : Env} {d : Nat} {o : Option Opd} (h : ∀ x ∈ o.toList, x.get C env = x.get C env') : optNat C env d o = optNat C env' d o := by
  cases o with
  | none => rfl
  | some x => simp only [Option.toList_some, List.mem_singleton, forall_eq] at h; simp only [optNat, h]

theorem simpleOp_congr {env env' : Env} {h : H} {op : EOp} (hx : ∀ x ∈ op.opds, x.get C env = x.get C env') : simpleOp C env h op = simpleOp C env' h op := by
  cases op <;> simp only [EOp.opds, List.mem_cons, List.mem_append, List.not_mem_nil, or_false, forall_eq_or_imp, forall_eq, or_imp, forall_and] at hx
  case build => simp only [simpleOp]; rw [fillP_congr _ _ hx]
  case bslice => simp only [simpleOp]; rw [fillP_congr _ _ hx]
  case mkFunc => simp only [simpleOp]; rw [map_congr _ hx.1, map_congr _ hx.2]
  case minmax => simp only [simpleOp]; rw [map_congr _ hx]
  case sliceStr => simp only [simpleOp, hx.1, fun d => optNat_congr (d := d) hx.2.1, fun d => optNat_congr (d := d) hx.2.2]
  case sliceSl => simp only [simpleOp, hx.1, fun d => optNat_congr (d := d) hx.2.1.1, fun d => optNat_congr (d := d) hx.2.1.2, fun d => optNat_congr (d := d) hx.2.2]
  case sliceArr => simp only [simpleOp, hx.1, fun d => optNat_congr (d := d) hx.2.1.1, fun d => optNat_congr (d := d) hx.2.1.2, fun d => optNat_congr (d := d) hx.2.2]
  all_goals simp only [simpleOp, hx]

theorem runOp_congr {env env' : Env} {h : H} {op : EOp} (hx : ∀ x ∈ op.opds, x.get C env = x.get C env') : runOp C call env h op = runOp C call env' h op := by
  cases op
  case call => simp only [EOp.opds] at hx; simp only [runOp]; rw [map_congr _ hx]
  case callV => simp only [EOp.opds, List.mem_cons, forall_eq_or_imp] at hx; simp only [runOp, hx.1]; rw [map_congr _ hx.2]
  case invoke => simp only [EOp.opds, List.mem_cons, forall_eq_or_imp] at hx; simp only [runOp, hx.1]; rw [map_congr _ hx.2]
  all_goals exact simpleOp_congr (h := h) hx

theorem foot_congr {env env' : Env} {op : EOp} (hx : ∀ x ∈ op.opds, x.get C env = x.get C env') : foot C env op = foot C env' op := by
  cases op <;> simp only [EOp.opds, List.mem_cons, List.mem_append, List.not_mem_nil, or_false, forall_eq_or_imp, forall_eq, or_imp, forall_and] at hx <;> simp only [foot, hx]

def N8.mapI {α β : Type} (f : D → α → β) (n : N8 α) : N8 β := ⟨f .d0 n.a0, f .d1 n.a1, f .d2 n.a2, f .d3 n.a3, f .d4 n.a4, f .d5 n.a5, f .d6 n.a6, f .d7 n.a7⟩
theorem N8.get_mapI {α β : Type} (f : D → α → β) (n : N8 α) (d : D) : (n.mapI f).get d = f d (n.get d) := by cases d <;> rfl

/-- of a frame just those temporaries -/
def maskE (p : Ix → Bool) (e : Env) : Env := N8.mapI (fun x r => N8.mapI (fun y q => N8.mapI (fun z v => if p ⟨x, y, z⟩ then v else .junk) q) r) e
theorem maskE_get (p : Ix → Bool) (e : Env) (i : Ix) : (maskE p e).get i = if p i then e.get i else .junk := by
  obtain ⟨x, y, z⟩ := i
  simp only [maskE, Env.get, N8.get_mapI]

theorem mask_opd {p : Ix → Bool} {e : Env} {x : Opd} (h : ∀ t ∈ x.ixs, p t = true) : x.get C e = x.get C (maskE p e) := by
  cases x with
  | tmp t => simp only [Opd.ixs, List.mem_singleton, forall_eq] at h; simp only [Opd.get, maskE_get, h, if_true]
  | const v => rfl
  | glob g => rfl

/-! ### A region's run, operation by operation -/
def StepAt (C : Ctx) (call : E.Call) (o : EOper) (e : Env) (s : H) (v : V) (d : Did) (e' : Env) (s' : H) : Prop :=
  (wanted e o.guard = some false ∧ v = .tup [] ∧ d = ⟨[], some [], none, .tup [], 0, 0⟩ ∧ s' = s ∧ e' = put e o.dst v) ∨
  (wanted e o.guard = some true ∧ e' = put e o.dst v ∧ ∃ h', runOp C call e s o.op = .ok v h' ∧ s' = h'.norm ∧ d = ⟨h'.wr, footOf C e o.op h'.wr, tagOf C e o.op, v, s.size, h'.size⟩)

structure Tr where
  E : Nat → Env
  S : Nat → H
  V : Nat → V
  D : Nat → Did

def Tr.Ok (T : Tr) (C : Ctx) (call : E.Call) (l : List EOper) : Prop := ∀ k o, l[k]? = some o → StepAt C call o (T.E k) (T.S k) (T.V k) (T.D k) (T.E (k + 1)) (T.S (k + 1))

def shift {α : Type} (a : α) (f : Nat → α) : Nat → α
  | 0 => a
  | k + 1 => f k

theorem runDraw_trace : ∀ (l : List EOper) (env : Env) (h : H) (acc : List Did) (env' : Env) (out : List Did) (hout : H), runDraw C call l env h acc = .ok (env', out) hout →
    ∃ T : Tr, T.E 0 = env ∧ T.S 0 = h.norm ∧ T.E l.length = env' ∧ T.S l.length = hout.norm ∧ hout.mark = h.mark ∧
      (∀ b, b ∈ hout.wr ↔ b ∈ h.wr ∨ b < h.mark ∧ ∃ k, k < l.length ∧ b ∈ (T.D k).wr) ∧ out = acc.reverse ++ (List.range l.length).map T.D ∧ T.Ok C call l
  | [], env, h, acc, env', out, hout, hr => by
    simp only [runDraw, R.ok.injEq, Prod.mk.injEq] at hr
    obtain ⟨⟨rfl, rfl⟩, rfl⟩ := hr
    exact ⟨⟨fun _ => env, fun _ => h.norm, fun _ => .junk, fun _ => ⟨[], none, none, .junk, 0, 0⟩⟩, rfl, rfl, rfl, rfl, rfl, by simp, by simp, fun k o hk => by simp at hk⟩
  | o :: l, env, h, acc, env', out, hout, hr => by
    simp only [runDraw, norm_eq] at hr
    cases hw : wanted env o.guard with
    | none => rw [hw] at hr; cases hr
    | some t =>
      rw [hw] at hr
      cases t with
      | false =>
        simp only at hr
        obtain ⟨T, h1, h2, h3, h4, h5, h6, h7, h8⟩ := runDraw_trace l _ _ _ _ _ _ hr
        refine ⟨⟨shift env T.E, shift h.norm T.S, shift (.tup []) T.V, shift ⟨[], some [], none, .tup [], 0, 0⟩ T.D⟩, rfl, rfl, h3, h4, h5, ?_, ?_, ?_⟩
        · intro b
          rw [h6]
          constructor
          · rintro (h9 | ⟨h9, k, hk, hb⟩)
            · exact .inl h9
            · exact .inr ⟨h9, k + 1, by simpa using hk, hb⟩
          · rintro (h9 | ⟨h9, k, hk, hb⟩)
            · exact .inl h9
            · cases k with
              | zero => simp [shift] at hb
              | succ k => exact .inr ⟨h9, k, by simpa using hk, hb⟩
        · rw [h7, List.length_cons, List.range_succ_eq_map]
          simp [shift, Function.comp_def]
        · intro k x hk
          cases k with
          | zero =>
            simp at hk
            subst hk
            exact .inl ⟨hw, rfl, rfl, by simp only [shift]; exact h2, by simp only [shift]; exact h1⟩
          | succ k => exact h8 k x (by simpa using hk)
      | true =>
        simp only at hr
        cases hop : runOp C call env h.norm o.op with
        | fail => rw [hop] at hr; cases hr
        | pan v h' => rw [hop] at hr; cases hr
        | ok v h' =>
          rw [hop] at hr
          simp only at hr
          obtain ⟨T, h1, h2, h3, h4, h5, h6, h7, h8⟩ := runDraw_trace l _ _ _ _ _ _ hr
          refine ⟨⟨shift env T.E, shift h.norm T.S, shift v T.V, shift ⟨h'.wr, footOf C env o.op h'.wr, tagOf C env o.op, v, h.size, h'.size⟩ T.D⟩, rfl, rfl, h3, h4, h5, ?_, ?_, ?_⟩
          · intro b
            rw [h6]
            simp only [List.mem_append, List.mem_filter, nblt, decide_eq_true_eq]
            constructor
            · rintro ((⟨h9, h10⟩ | h9) | ⟨h9, k, hk, hb⟩)
              · exact .inr ⟨h10, 0, by simp, h9⟩
              · exact .inl h9
              · exact .inr ⟨h9, k + 1, by simpa using hk, hb⟩
            · rintro (h9 | ⟨h9, k, hk, hb⟩)
              · exact .inl (.inr h9)
              · cases k with
                | zero => exact .inl (.inl ⟨hb, h9⟩)
                | succ k => exact .inr ⟨h9, k, by simpa using hk, hb⟩
          · rw [h7, List.length_cons, List.range_succ_eq_map]
            simp [shift, Function.comp_def]
          · intro k x hk
            cases k with
            | zero =>
              simp at hk
              subst hk
              exact .inr ⟨hw, by simp only [shift]; exact h1, h', hop, by simp only [shift]; exact h2, rfl⟩
            | succ k => exact h8 k x (by simpa using hk)

/-! ### Which operations may come ahead of which -/
def Down (ops : Array Oper) (D : Nat → Prop) : Prop := ∀ j o, ops[j]? = some o → D j → ∀ e ∈ o.after, Region.binds .any e = true → D e.on

theorem foldl_bits {D : Nat → Prop} {i : Nat} {acc : Array Nat} (hacc : ∀ m, D m → (acc.getD m 0).testBit i = true → D i) : ∀ (l : List Edge) (s : Nat), (∀ e ∈ l, Region.binds .any e = true → D e.on) → (s.testBit i = true → D i) →
    (l.foldl (fun s e => if Region.binds .any e then s ||| 2 ^ e.on ||| acc.getD e.on 0 else s) s).testBit i = true → D i
  | [], s, _, hs, h => hs h
  | e :: l, s, hl, hs, h => by
    simp only [List.foldl_cons] at h
    refine foldl_bits hacc l _ (fun x hx => hl x (by simp [hx])) ?_ h
    intro h2
    split at h2
    · rename_i hb
      have hd := hl e (by simp) hb
      rw [Nat.testBit_or, Nat.testBit_or, Bool.or_eq_true, Bool.or_eq_true] at h2
      rcases h2 with (h2 | h2) | h2
      · exact hs h2
      · rw [Nat.testBit_two_pow] at h2
        have : e.on = i := by simpa using h2
        exact this ▸ hd
      · exact hacc _ hd h2
    · exact hs h2

theorem before_down {ops : Array Oper} {D : Nat → Prop} (hD : Down ops D) {i j : Nat} (hj : D j) (hb : ((Region.before ops).getD j 0).testBit i = true) : D i := by
  have main : ∀ (l : List Oper) (acc : Array Nat), (∀ k o, l[k]? = some o → ops[acc.size + k]? = some o) → (∀ m, D m → (acc.getD m 0).testBit i = true → D i) →
      ∀ m, D m → ((l.foldl (fun acc o => acc.push (o.after.foldl (fun s e => if Region.binds .any e then s ||| 2 ^ e.on ||| acc.getD e.on 0 else s) 0)) acc).getD m 0).testBit i = true → D i := by
    intro l
    induction l with
    | nil => intro acc _ h m hm h2; exact h m hm h2
    | cons o l ih =>
      intro acc hl hacc m hm h2
      simp only [List.foldl_cons] at h2
      refine ih _ (fun k x hk => ?_) (fun m hm h3 => ?_) m hm h2
      · rw [Array.size_push, show acc.size + 1 + k = acc.size + (k + 1) by omega]
        exact hl (k + 1) x (by simpa using hk)
      · rcases Nat.lt_trichotomy m acc.size with h4 | h4 | h4
        · refine hacc m hm ?_
          rw [Array.getD_eq_getD_getElem?, Array.getElem?_push, if_neg (by omega)] at h3
          rwa [Array.getD_eq_getD_getElem?]
        · subst h4
          have ho := hl 0 o (by simp)
          rw [Nat.add_zero] at ho
          rw [Array.getD_eq_getD_getElem?, Array.getElem?_push, if_pos rfl] at h3
          simp only [Option.getD_some] at h3
          rw [← Array.foldl_toList] at h3
          refine foldl_bits hacc _ 0 (fun e he hb => hD _ o ho hm e (by simpa using he) hb) (by simp) h3
        · rw [Array.getD_eq_getD_getElem?, Array.getElem?_push, if_neg (by omega), Array.getElem?_eq_none (by omega)] at h3
          simp at h3
  have := main ops.toList #[] (fun k o hk => by simpa using hk) (fun m _ h => by simp at h) j hj
  refine this ?_
  unfold Region.before at hb
  rw [← Array.foldl_toList] at hb
  exact hb

theorem unord_mem {ops : Array Oper} {i j : Nat} (hij : i < j) (hj : j < ops.size) (h : ((Region.before ops).getD j 0).testBit i = false) : (i, j) ∈ unordOf ops := by
  unfold unordOf
  simp only [List.mem_flatMap, List.mem_range, List.mem_map, List.mem_filter, Bool.not_eq_true', Prod.mk.injEq]
  exact ⟨j, hj, i, ⟨hij, h⟩, rfl, rfl⟩

/-- what is known of a region whose operations come, listed one behind the other, in text order too -/
structure Order (ops : Array Oper) : Prop where
  lt : ∀ {j : Nat} {o : Oper}, ops[j]? = some o → ∀ e ∈ o.after, Region.binds .any e = true → e.on < j
  apart : ∀ {i j : Nat} {oi oj : Oper}, i < j → ops[i]? = some oi → ops[j]? = some oj → (∀ e ∈ oj.after, Region.binds .any e = true → e.on ≠ i) → oi.apart ops oj = true

theorem order_of_lex {ops : Array Oper} (h : Region.lexB .any ops = true) : Order ops := by
  simp only [Region.lexB, Bool.and_eq_true] at h
  have main : ∀ (f k : Nat) (listed : Array Bool), Region.lexFrom .any ops f k listed = true → listed.size = ops.size → (∀ i, i < ops.size → listed.getD i true = decide (i < k)) → (∀ i, listed.getD i false = decide (i < k ∧ i < ops.size)) → k + f = ops.size →
      ∀ i, k ≤ i → i < ops.size → ∃ listed : Array Bool, i ∈ Region.ready .any ops listed ∧ Region.free .any ops listed i = true ∧ (∀ j, j < ops.size → listed.getD j true = decide (j < i)) ∧ (∀ j, listed.getD j false = decide (j < i ∧ j < ops.size)) := by
    intro f
    induction f with
    | zero => intro k listed _ _ _ _ h1 i h2 h3; omega
    | succ f ih =>
      intro k listed hl hs h1 h2 hk i hki hi
      simp only [Region.lexFrom, Bool.and_eq_true] at hl
      by_cases e : k = i
      · subst e
        exact ⟨listed, by simpa using hl.1.1, hl.1.2, h1, h2⟩
      · refine ih (k + 1) _ hl.2 (by simp [hs]) (fun j hj => ?_) (fun j => ?_) (by omega) i (by omega) hi
        · by_cases e2 : k = j
          · subst e2
            simp [Array.getD_eq_getD_getElem?, Array.getElem?_setIfInBounds, hs, hj]
          · rw [getD_set_ne _ e2, h1 j hj]
            simp; omega
        · by_cases e2 : k = j
          · subst e2
            simp [Array.getD_eq_getD_getElem?, Array.getElem?_setIfInBounds, hs]
            split <;> simp_all
          · rw [getD_set_ne _ e2, h2 j, decide_eq_decide]
            omega
  have all := main ops.size 0 (Array.replicate ops.size false) h.2 (by simp) (fun i hi => by simp [Array.getD_eq_getD_getElem?, Array.getElem?_replicate, hi]) (fun i => by simp [Array.getD_eq_getD_getElem?, Array.getElem?_replicate]; split <;> rfl) (by omega)
  refine ⟨fun {j o} hj e he hb => ?_, fun {i j oi oj} hij hi hj hno => ?_⟩
  · have hlt := (Array.getElem?_eq_some_iff.1 hj).1
    obtain ⟨listed, h1, _, _, h4⟩ := all j (Nat.zero_le _) hlt
    obtain ⟨_, o', ho', hall⟩ := mem_ready.1 h1
    rw [hj] at ho'
    cases ho'
    have := hall e he hb
    rw [h4] at this
    simp at this
    exact this.1
  · have hlt := (Array.getElem?_eq_some_iff.1 hi).1
    have hltj := (Array.getElem?_eq_some_iff.1 hj).1
    obtain ⟨listed, _, h2, h3, _⟩ := all i (Nat.zero_le _) hlt
    exact Region.free_spec hi h2 j oj hj (by omega) (by rw [h3 j hltj]; simp; omega) hno

end Go.E

namespace Go.E
variable {P : Program} {C : Ctx} {call : E.Call}

/-! ### Names below a number -/
def Rn.below (ρ : Rn) (m : Nat) : Rn := { L := fun b v => if b < m then ρ.L b v else none, S := ρ.S }

theorem below_some {ρ : Rn} {m b v r : Nat} : (ρ.below m).L b v = some r ↔ b < m ∧ ρ.L b v = some r := by
  simp only [Rn.below]
  by_cases h : b < m <;> simp [h]

theorem keeps_below_le {ρ : Rn} {m m' : Nat} {w : World} (h : m ≤ m') : Keeps (ρ.below m) w (ρ.below m') w where
  L := fun hL => by rw [below_some] at *; exact ⟨by omega, hL.2⟩
  S := fun h => h
  cell := fun _ h => h
  shape := fun h => ⟨_, _, h, rfl⟩
  maps := fun h => ⟨_, _, h, fun e he => ⟨e, he, rfl, fun _ hk => hk⟩⟩

theorem keeps_below {ρ : Rn} {m : Nat} {w : World} : Keeps (ρ.below m) w ρ w where
  L := fun hL => (below_some.1 hL).2
  S := fun h => h
  cell := fun _ h => h
  shape := fun h => ⟨_, _, h, rfl⟩
  maps := fun h => ⟨_, _, h, fun e he => ⟨e, he, rfl, fun _ hk => hk⟩⟩

/-- the same worlds, other names -/
theorem Keeps.names {ρ ρ' ρ₁ ρ₂ : Rn} {w w' : World} (K : Keeps ρ w ρ' w') (hL : ∀ {b v r : Nat}, ρ₁.L b v = some r → ρ₂.L b v = some r) (hS₁ : ∀ {r o : Nat}, ρ₁.S r o → ρ.S r o) (hS : ∀ {r o : Nat}, ρ₁.S r o → ρ₂.S r o) : Keeps ρ₁ w ρ₂ w' where
  L := hL
  S := hS
  cell := fun h1 h2 => K.cell (hS₁ h1) h2
  shape := K.shape
  maps := K.maps

/-- what stands fast for a region -/
structure Cx (P : Program) (C : Ctx) (call : E.Call) (n : Nat) (ops : Array Oper) (T : Tr) : Prop where
  hC : CtxOk P C
  sim : CallSim P C call
  step : CallStep call
  hn : n ≤ 511
  ord : Order ops
  oks : opsOk P n ops = true
  ok : T.Ok C call (ops.toList.map (compOper P n ops))
  pairs : ∀ i j, (i, j) ∈ unordOf ops → pairOk (T.D i) (T.D j) = true
  dom0 : ∀ {b : Nat} {blk : Blk}, (T.S 0).get b = some blk → b < (T.S 0).size
  norm0 : (T.S 0).mark = (T.S 0).size ∧ (T.S 0).wr = []

def Tr.touch (T : Tr) (k b : Nat) : Prop := b ∈ (T.D k).wr ∨ (T.S k).size ≤ b ∧ b < (T.S (k + 1)).size

section
variable {n : Nat} {ops : Array Oper} {T : Tr}

theorem Cx.stepAt (c : Cx P C call n ops T) {k : Nat} {o : Oper} (hk : ops[k]? = some o) : StepAt C call (compOper P n ops o) (T.E k) (T.S k) (T.V k) (T.D k) (T.E (k + 1)) (T.S (k + 1)) :=
  c.ok k _ (by simp [hk])

theorem Cx.norm (c : Cx P C call n ops T) : ∀ k, k ≤ ops.size → (T.S k).mark = (T.S k).size ∧ (T.S k).wr = []
  | 0, _ => c.norm0
  | k + 1, h => by
    have hk : ops[k]? = some ops[k] := Array.getElem?_eq_getElem (by omega)
    rcases c.stepAt hk with ⟨_, _, _, h4, _⟩ | ⟨_, _, h', _, h4, _⟩
    · rw [h4]; exact c.norm k (by omega)
    · rw [h4]; exact ⟨rfl, rfl⟩

theorem Cx.hstep (c : Cx P C call n ops T) {k : Nat} (h : k < ops.size) : ∃ h', HStep (T.S k) h' ∧ T.S (k + 1) = h'.norm ∧ (T.D k).wr = h'.wr := by
  have hk : ops[k]? = some ops[k] := Array.getElem?_eq_getElem h
  rcases c.stepAt hk with ⟨_, _, h3, h4, _⟩ | ⟨_, _, h', h2, h4, h5⟩
  · obtain ⟨g1, g2⟩ := c.norm k (by omega)
    refine ⟨T.S k, .refl _, ?_, by rw [h3, g2]⟩
    rw [h4]
    generalize T.S k = s at g1 g2
    cases s
    simp only [H.norm] at *
    subst g1 g2
    rfl
  · have := runOp_step (C := C) c.step (T.E k) (T.S k) (compOper P n ops ops[k]).op
    rw [h2] at this
    exact ⟨h', this, h4, by rw [h5]⟩

theorem Cx.size_succ (c : Cx P C call n ops T) {k : Nat} (h : k < ops.size) : (T.S k).size ≤ (T.S (k + 1)).size := by
  obtain ⟨h', s, e, _⟩ := c.hstep h
  rw [e]; exact s.size

theorem Cx.size_le (c : Cx P C call n ops T) {i j : Nat} (h : i ≤ j) (hj : j ≤ ops.size) : (T.S i).size ≤ (T.S j).size := by
  induction j with
  | zero => have : i = 0 := by omega
            subst this; exact Nat.le_refl _
  | succ j ih =>
    by_cases e : i = j + 1
    · subst e; exact Nat.le_refl _
    · exact Nat.le_trans (ih (by omega) (by omega)) (c.size_succ (by omega))

theorem Cx.wr_lt (c : Cx P C call n ops T) {k b : Nat} (h : k < ops.size) (hb : b ∈ (T.D k).wr) : b < (T.S k).size := by
  obtain ⟨h', s, e, e2⟩ := c.hstep h
  obtain ⟨g1, g2⟩ := c.norm k (by omega)
  rw [e2] at hb
  rcases s.wrs b hb with h1 | h1
  · rw [g2] at h1; cases h1
  · omega

theorem Cx.get_succ (c : Cx P C call n ops T) {k b : Nat} (h : k < ops.size) (hb : b < (T.S k).size) (ht : ¬ T.touch k b) : (T.S (k + 1)).get b = (T.S k).get b := by
  obtain ⟨h', s, e, e2⟩ := c.hstep h
  obtain ⟨g1, g2⟩ := c.norm k (by omega)
  rw [e, norm_get]
  exact s.same (by omega) (by omega) (fun hw => ht (.inl (e2 ▸ hw)))

theorem Cx.small (_c : Cx P C call n ops T) {i j b : Nat} (h : i ≤ j) (hj : j ≤ ops.size) (hb : b < (T.S j).size) (ht : ∀ k, i ≤ k → k < j → ¬ T.touch k b) : b < (T.S i).size := by
  induction j with
  | zero => have : i = 0 := by omega
            subst this; exact hb
  | succ j ih =>
    by_cases e : i = j + 1
    · subst e; exact hb
    · refine ih (by omega) (by omega) ?_ (fun k h1 h2 => ht k h1 (by omega))
      have := ht j (by omega) (by omega)
      rcases Nat.lt_or_ge b (T.S j).size with h1 | h1
      · exact h1
      · exact absurd (.inr ⟨h1, hb⟩) this

theorem Cx.get_many (c : Cx P C call n ops T) {i j b : Nat} (h : i ≤ j) (hj : j ≤ ops.size) (hb : b < (T.S i).size) (ht : ∀ k, i ≤ k → k < j → ¬ T.touch k b) : (T.S j).get b = (T.S i).get b := by
  induction j with
  | zero => have : i = 0 := by omega
            subst this; rfl
  | succ j ih =>
    by_cases e : i = j + 1
    · subst e; rfl
    · rw [c.get_succ (by omega) (Nat.lt_of_lt_of_le hb (c.size_le (by omega) (by omega))) (ht j (by omega) (by omega))]
      exact ih (by omega) (by omega) (fun k h1 h2 => ht k h1 (by omega))

theorem Cx.dom (c : Cx P C call n ops T) : ∀ k, k ≤ ops.size → ∀ {b : Nat} {blk : Blk}, (T.S k).get b = some blk → b < (T.S k).size
  | 0, _ => c.dom0
  | k + 1, h => by
    obtain ⟨h', s, e, _⟩ := c.hstep (k := k) (by omega)
    intro hb
    rw [e] at hb ⊢
    exact s.dom (c.dom k (by omega)) hb

theorem Cx.dst_lt (c : Cx P C call n ops T) {k : Nat} {o : Oper} (hk : ops[k]? = some o) : o.dst.all (· < n) = true := by
  by_cases h : o.dst.all (· < n) = true
  · exact h
  · have h1 : (compOper P n ops o).op = .other := by simp only [compOper]; rw [if_neg h]
    have h2 : (compOper P n ops o).guard = none := by simp only [compOper]; rw [if_neg h]
    rcases c.stepAt hk with ⟨h3, _⟩ | ⟨_, _, h', h4, _⟩
    · rw [h2] at h3; cases h3
    · rw [h1] at h4; cases h4

theorem Cx.env_succ (c : Cx P C call n ops T) {k : Nat} {o : Oper} (hk : ops[k]? = some o) {t : Nat} (ht : t < 512) : (T.E (k + 1)).get (ix t) = if o.dst = some t then T.V k else (T.E k).get (ix t) := by
  have he : T.E (k + 1) = put (T.E k) (o.dst.map ix) (T.V k) := by
    rcases c.stepAt hk with ⟨_, _, _, _, h⟩ | ⟨_, h, _⟩ <;> exact h
  rw [he]
  have hd := c.dst_lt hk
  cases hdd : o.dst with
  | none => simp [put]
  | some d =>
    rw [hdd] at hd
    simp only [Option.all_some, decide_eq_true_eq] at hd
    have := c.hn
    simp only [Option.map_some, put, Env.get_set, Option.some.injEq]
    by_cases e : d = t
    · subst e; simp
    · rw [if_neg e, if_neg (fun hh => e (ix_inj (by omega) ht hh))]

theorem Cx.env_many (c : Cx P C call n ops T) {i j t : Nat} (h : i ≤ j) (hj : j ≤ ops.size) (ht : t < 512) (hk : ∀ k o, i ≤ k → k < j → ops[k]? = some o → o.dst ≠ some t) : (T.E j).get (ix t) = (T.E i).get (ix t) := by
  induction j with
  | zero => have : i = 0 := by omega
            subst this; rfl
  | succ j ih =>
    by_cases e : i = j + 1
    · subst e; rfl
    · have hj' : ops[j]? = some ops[j] := Array.getElem?_eq_getElem (by omega)
      rw [c.env_succ hj' ht, if_neg (hk j _ (by omega) (by omega) hj')]
      exact ih (by omega) (by omega) (fun k o h1 h2 => hk k o h1 (by omega))

/-! ### How things stand when some operations have been carried out -/
def On (listed : Array Bool) (k : Nat) : Prop := listed.getD k false = true

structure J (P : Program) (C : Ctx) (n : Nat) (ops : Array Oper) (T : Tr) (ρ₀ : Rn) (h₀ hout : H) (w₀ : World) (a₀ : Act) (listed : Array Bool) (ρ : Rn) (κ μ : Nat → Nat) (a : Act) (w : World) : Prop where
  lsize : listed.size = ops.size
  down : Down ops (On listed)
  tsize : a.tmps.size = n
  defs : a.defers = a₀.defers
  names : ∀ {b v r : Nat}, ρ.L b v = some r → b < (T.S 0).size ∨ ∃ k, On listed k ∧ k < ops.size ∧ (T.S k).size ≤ b ∧ b < (T.S (k + 1)).size
  inj : ∀ {b v b' v' r : Nat}, ρ.L b v = some r → ρ.L b' v' = some r → b = b'
  lt : ∀ {b v r : Nat}, ρ.L b v = some r → r < w.heap.size
  slt : ∀ {r o : Nat}, ρ.S r o → r < w.heap.size
  cont : ∀ {b : Nat} {blk : Blk} {r : Nat}, (T.S (κ b)).get b = some blk → ρ.L b (ver blk) = some r → BRel P (ρ.below (T.S (κ b)).size) w r blk ∧ ∀ o, ρ.S r o → ∃ cs e g frz, blk = .cells cs e g frz ∧ o < frz
  vers : ∀ {b : Nat} {blk : Blk} {v r : Nat}, (T.S (κ b)).get b = some blk → ρ.L b v = some r → v ≤ ver blk
  kap : ∀ b, κ b = 0 ∨ ∃ k, On listed k ∧ k < ops.size ∧ κ b = k + 1 ∧ T.touch k b
  kapLast : ∀ b k, On listed k → k < ops.size → κ b ≤ k → ¬ T.touch k b
  env : ∀ t, t < 512 → VRel (ρ.below (T.S (μ t)).size) w (a.tmps.getD t undef) ((T.E (μ t)).get (ix t))
  mu : ∀ t, μ t = 0 ∨ ∃ k o, On listed k ∧ ops[k]? = some o ∧ μ t = k + 1 ∧ o.dst = some t
  muLast : ∀ t k o, On listed k → ops[k]? = some o → μ t ≤ k → o.dst ≠ some t
  keeps : Keeps ρ₀ w₀ ρ w
  old : ∀ {b v r : Nat}, ρ₀.L b v = some r → b < (T.S 0).size
  grows : w₀.heap.size ≤ w.heap.size
  newL : ∀ {b v r : Nat}, ρ.L b v = some r → ρ₀.L b v = none → (h₀.size ≤ b ∧ b < hout.size ∧ w₀.heap.size ≤ r) ∨ ((b ∈ hout.wr ∨ h₀.mark ≤ b) ∧ ∃ v₀ r₀, ρ₀.L b v₀ = some r₀ ∧ (w₀.heap.size ≤ r ∨ r = r₀))
  newS : ∀ {r o : Nat}, ρ.S r o → ρ₀.S r o ∨ w₀.heap.size ≤ r ∨ ∃ b v, ρ₀.L b v = some r ∧ (b ∈ hout.wr ∨ h₀.mark ≤ b)
  rest : ∀ {r : Nat}, r < w₀.heap.size → (∀ b v, ρ₀.L b v = some r → b < h₀.mark ∧ b ∉ hout.wr) → w.heap[r]? = w₀.heap[r]?
  world : w.os = w₀.os ∧ w.output = w₀.output ∧ w.tape = w₀.tape

/-- what an operation carried out is known to have done -/
structure OpDone (P : Program) (T : Tr) (i : Nat) (ρ : Rn) (w : World) (v' : Value) (w' : World) (ρ' : Rn) : Prop where
  rel : VRel ρ' w' v' (T.V i)
  keeps : Keeps (ρ.below (T.S i).size) w ρ' w'
  grows : w.heap.size ≤ w'.heap.size
  fresh : ∀ {b v : Nat}, (T.S (i + 1)).size ≤ b → ρ'.L b v = none
  inj : ∀ {b v b' v' r : Nat}, ρ'.L b v = some r → ρ'.L b' v' = some r → b = b'
  lt : ∀ {b v r : Nat}, ρ'.L b v = some r → r < w'.heap.size
  slt : ∀ {r o : Nat}, ρ'.S r o → r < w'.heap.size
  cont : ∀ {b : Nat} {blk : Blk} {r : Nat}, T.touch i b → (T.S (i + 1)).get b = some blk → ρ'.L b (ver blk) = some r → BRel P ρ' w' r blk ∧ ∀ o, ρ'.S r o → ∃ cs e g frz, blk = .cells cs e g frz ∧ o < frz
  vers : ∀ {b : Nat} {blk : Blk} {v r : Nat}, T.touch i b → (T.S (i + 1)).get b = some blk → ρ'.L b v = some r → v ≤ ver blk
  newL : ∀ {b v r : Nat}, ρ'.L b v = some r → (ρ.below (T.S i).size).L b v = none → ((T.S i).size ≤ b ∧ b < (T.S (i + 1)).size ∧ w.heap.size ≤ r) ∨ (b ∈ (T.D i).wr ∧ ∃ v₀ r₀, (ρ.below (T.S i).size).L b v₀ = some r₀ ∧ (w.heap.size ≤ r ∨ r = r₀))
  newS : ∀ {r o : Nat}, ρ'.S r o → ρ.S r o ∨ w.heap.size ≤ r ∨ ∃ b v, (ρ.below (T.S i).size).L b v = some r ∧ b ∈ (T.D i).wr
  rest : ∀ {r : Nat}, r < w.heap.size → (∀ b v, (ρ.below (T.S i).size).L b v = some r → b ∉ (T.D i).wr) → w'.heap[r]? = w.heap[r]?
  world : w'.os = w.os ∧ w'.output = w.output ∧ w'.tape = w.tape

theorem OpDone.of (c : Cx P C call n ops T) {i : Nat} (hi : i < ops.size) {X : Nat → Prop} {ρ ρ' : Rn} {w w' : World} {v' : Value} {h' : H} (hv : VRel ρ' w' v' (T.V i)) (I : Inv P (fun b => X b ∨ (T.S i).size ≤ b) ρ' h' w') (p : Post (ρ.below (T.S i).size) (T.S i) w ρ' h' w')
    (hs : T.S (i + 1) = h'.norm) (hw : (T.D i).wr = h'.wr) (hX : ∀ b ∈ (T.D i).wr, X b) : OpDone P T i ρ w v' w' ρ' := by
  obtain ⟨g1, g2⟩ := c.norm i (by omega)
  have hXt : ∀ b, T.touch i b → X b ∨ (T.S i).size ≤ b := fun b ht => ht.imp (hX b) And.left
  exact {
    rel := hv
    keeps := p.keeps
    grows := p.grows
    fresh := fun {b v} hb => I.fresh (by rw [hs] at hb; exact hb)
    inj := I.inj
    lt := I.lt
    slt := I.slt
    cont := fun {b blk r} ht hg hL => by
      rw [hs, norm_get] at hg
      exact ⟨I.blk (hXt b ht) hg hL, fun o hS => I.stab (hXt b ht) hg hL hS⟩
    vers := fun {b blk v r} ht hg hL => by
      rw [hs, norm_get] at hg
      exact I.vers (hXt b ht) hg hL
    newL := fun {b v r} h1 h2 => by
      rcases p.newL h1 h2 with ⟨h3, h4, h5⟩ | ⟨h3, v₀, r₀, h4, h5⟩
      · exact .inl ⟨h3, by rw [hs]; exact h4, h5⟩
      · refine .inr ⟨?_, v₀, r₀, h4, h5⟩
        rcases h3 with h3 | h3
        · rw [hw]; exact h3
        · have := (below_some.1 h4).1
          omega
    newS := fun {r o} h1 => by
      rcases p.newS h1 with h2 | h2 | ⟨b, v, h2, h3⟩
      · exact .inl h2
      · exact .inr (.inl h2)
      · refine .inr (.inr ⟨b, v, h2, ?_⟩)
        rcases h3 with h3 | h3
        · rw [hw]; exact h3
        · have := (below_some.1 h2).1
          omega
    rest := fun {r} h1 h2 => p.rest h1 (fun b v hb => ⟨by have := (below_some.1 hb).1; omega, by rw [← hw]; exact h2 b v hb⟩)
    world := p.world }

section join
variable {ρ₀ : Rn} {h₀ hout : H} {w₀ : World} {a₀ a : Act} {listed : Array Bool} {ρ ρ' : Rn} {κ μ : Nat → Nat} {w w' : World} {i : Nat} {oi : Oper} {v' : Value}

theorem on_set {listed : Array Bool} {i k : Nat} (hi : i < listed.size) : On (listed.setIfInBounds i true) k ↔ k = i ∨ On listed k := by
  unfold On
  by_cases e : i = k
  · subst e
    simp [Array.getD_eq_getD_getElem?, Array.getElem?_setIfInBounds, hi]
  · rw [getD_set_ne _ e]
    constructor
    · exact .inr
    · rintro (h | h)
      · exact absurd h.symm e
      · exact h

theorem ready_spec (hr : i ∈ Region.ready .any ops listed) : ¬ On listed i ∧ ∃ o, ops[i]? = some o ∧ ∀ e ∈ o.after, Region.binds .any e = true → On listed e.on := by
  obtain ⟨h1, o, ho, h2⟩ := mem_ready.1 hr
  refine ⟨fun h => ?_, o, ho, h2⟩
  unfold On at h
  rcases Nat.lt_or_ge i listed.size with h' | h'
  · simp [Array.getD_eq_getD_getElem?, h'] at h h1
    rw [h1] at h; cases h
  · simp [Array.getD_eq_getD_getElem?, Array.getElem?_eq_none h'] at h

theorem down_set (hd : Down ops (On listed)) (hl : listed.size = ops.size) (hi : i < ops.size) (ho : ops[i]? = some oi) (hall : ∀ e ∈ oi.after, Region.binds .any e = true → On listed e.on) : Down ops (On (listed.setIfInBounds i true)) := by
  intro j o hj hon e he hb
  rw [on_set (by omega)] at hon ⊢
  rcases hon with rfl | hon
  · rw [ho] at hj; cases hj
    exact .inr (hall e he hb)
  · exact .inr (hd j o hj hon e he hb)

/-- an operation not carried out, and a later one that was: their order is open -/
theorem unord_later (hd : Down ops (On listed)) {k : Nat} (hi : ¬ On listed i) (hk : On listed k) (hik : i < k) (hks : k < ops.size) : (i, k) ∈ unordOf ops :=
  unord_mem hik hks (by
    cases h : ((Region.before ops).getD k 0).testBit i with
    | false => rfl
    | true => exact absurd (before_down hd hk h) hi)

theorem unord_ahead (hd : Down ops (On listed)) (hl : listed.size = ops.size) {k : Nat} (his : i < ops.size) (ho : ops[i]? = some oi) (hall : ∀ e ∈ oi.after, Region.binds .any e = true → On listed e.on) (hk : ¬ On listed k) (hki : k < i) : (k, i) ∈ unordOf ops :=
  unord_mem hki his (by
    cases h : ((Region.before ops).getD i 0).testBit k with
    | false => rfl
    | true =>
      have := before_down (down_set hd hl his ho hall) ((on_set (by omega)).2 (.inl rfl)) h
      rw [on_set (by omega)] at this
      rcases this with h1 | h1
      · omega
      · exact absurd h1 hk)

theorem wrOk_spec {x y : Did} (h : wrOk x y = true) {b : Nat} (hb : b ∈ y.wr) : b ∉ x.wr ∧ (b < x.lo ∨ x.hi ≤ b) := by
  have := (List.all_eq_true.1 h) b hb
  simp only [Bool.and_eq_true, Bool.not_eq_true', Bool.or_eq_true, nblt, nble, decide_eq_true_eq] at this
  exact ⟨by simpa using this.1, this.2⟩

theorem Cx.made (c : Cx P C call n ops T) {k b : Nat} (hk : k < ops.size) (h1 : (T.S k).size ≤ b) (h2 : b < (T.S (k + 1)).size) : (T.D k).lo ≤ b ∧ b < (T.D k).hi := by
  have hk' : ops[k]? = some ops[k] := Array.getElem?_eq_getElem hk
  rcases c.stepAt hk' with ⟨_, _, h3, h4, _⟩ | ⟨_, _, h', _, h4, h5⟩
  · rw [h4] at h2; omega
  · rw [h4] at h2
    rw [h5]
    exact ⟨h1, h2⟩

/-- names of what an operation that has not been carried out makes: none -/
theorem J.notMade (c : Cx P C call n ops T) (j : J P C n ops T ρ₀ h₀ hout w₀ a₀ listed ρ κ μ a w) {k b v r : Nat} (hk : ¬ On listed k) (hks : k < ops.size) (hL : ρ.L b v = some r) : ¬ ((T.S k).size ≤ b ∧ b < (T.S (k + 1)).size) := by
  rintro ⟨h1, h2⟩
  rcases j.names hL with h3 | ⟨k', h3, h4, h5, h6⟩
  · have := c.size_le (i := 0) (j := k) (by omega) (by omega)
    omega
  · rcases Nat.lt_trichotomy k k' with h7 | h7 | h7
    · have := c.size_le (i := k + 1) (j := k') (by omega) (by omega)
      omega
    · subst h7; exact hk h3
    · have := c.size_le (i := k' + 1) (j := k) (by omega) (by omega)
      omega

open Classical in
theorem J.join (c : Cx P C call n ops T) (hout1 : hout.size = (T.S ops.size).size) (hout2 : ∀ k b, k < ops.size → b ∈ (T.D k).wr → b < h₀.mark → b ∈ hout.wr) (h0s : (T.S 0).size = h₀.size)
    (j : J P C n ops T ρ₀ h₀ hout w₀ a₀ listed ρ κ μ a w) (hr : i ∈ Region.ready .any ops listed) (ho : ops[i]? = some oi) (d : OpDone P T i ρ w v' w' ρ') :
    ∃ ρ'' κ' μ', J P C n ops T ρ₀ h₀ hout w₀ a₀ (listed.setIfInBounds i true) ρ'' κ' μ' (a.put oi.dst v') w' := by
  obtain ⟨hni, o', ho', hall⟩ := ready_spec hr
  rw [ho] at ho'
  cases ho'
  have his : i < ops.size := (Array.getElem?_eq_some_iff.1 ho).1
  have hil : i < listed.size := by rw [j.lsize]; exact his
  have hsz := c.size_succ his
  have h0i := c.size_le (i := 0) (j := i) (by omega) (by omega)
  have hiN := c.size_le (i := i + 1) (j := ops.size) (by omega) (by omega)
  have hdst := c.dst_lt ho
  -- the new names
  let ρ'' : Rn := { L := fun b v => if b < (T.S (i + 1)).size then ρ'.L b v else ρ.L b v, S := ρ'.S }
  have hlow : ∀ {b v r : Nat}, b < (T.S (i + 1)).size → (ρ''.L b v = some r ↔ ρ'.L b v = some r) := fun {b v r} hb => by simp only [ρ'']; rw [if_pos hb]
  have hhigh : ∀ {b v r : Nat}, (T.S (i + 1)).size ≤ b → (ρ''.L b v = some r ↔ ρ.L b v = some r) := fun {b v r} hb => by simp only [ρ'']; rw [if_neg (by omega)]
  have hkeepL : ∀ {b v r : Nat}, ρ.L b v = some r → ρ''.L b v = some r := fun {b v r} hL => by
    rcases Nat.lt_or_ge b (T.S (i + 1)).size with hb | hb
    · rw [hlow hb]
      refine d.keeps.L (below_some.2 ⟨?_, hL⟩)
      rcases Nat.lt_or_ge b (T.S i).size with h1 | h1
      · exact h1
      · exact absurd ⟨h1, hb⟩ (j.notMade c hni his hL)
    · rw [hhigh hb]; exact hL
  have hkeepS : ∀ {r o : Nat}, ρ.S r o → ρ''.S r o := fun h => d.keeps.S h
  have K : Keeps ρ w ρ'' w' := d.keeps.names hkeepL (fun h => h) hkeepS
  have Kb : ∀ m, Keeps (ρ.below m) w (ρ''.below m) w' := fun m => d.keeps.names (fun hL => by rw [below_some] at *; exact ⟨hL.1, hkeepL hL.2⟩) (fun h => h) hkeepS
  have K' : Keeps ρ' w' (ρ''.below (T.S (i + 1)).size) w' := (Keeps.refl ρ' w').names (fun {b v r} hL => by
    have hb : b < (T.S (i + 1)).size := by
      rcases Nat.lt_or_ge b (T.S (i + 1)).size with h1 | h1
      · exact h1
      · rw [d.fresh h1] at hL; cases hL
    exact below_some.2 ⟨hb, (hlow hb).2 hL⟩) (fun h => h) (fun h => h)
  -- a name of a block that was not touched is an elder one
  have hback : ∀ {b v r : Nat}, ¬ T.touch i b → ρ''.L b v = some r → ρ.L b v = some r := fun {b v r} ht hL => by
    rcases Nat.lt_or_ge b (T.S (i + 1)).size with hb | hb
    · rw [hlow hb] at hL
      have hbi : b < (T.S i).size := by
        rcases Nat.lt_or_ge b (T.S i).size with h1 | h1
        · exact h1
        · exact absurd (.inr ⟨h1, hb⟩) ht
      cases hq : (ρ.below (T.S i).size).L b v with
      | some r' =>
        have := d.keeps.L hq
        rw [hL] at this
        cases this
        exact (below_some.1 hq).2
      | none =>
        rcases d.newL hL hq with ⟨h1, _, _⟩ | ⟨h1, _⟩
        · omega
        · exact absurd (.inl h1) ht
    · rwa [hhigh hb] at hL
  have hfrom : ∀ {b v r : Nat}, ρ''.L b v = some r → ρ.L b v = some r ∨ (ρ'.L b v = some r ∧ b < (T.S (i + 1)).size ∧ ρ.L b v = none) := fun {b v r} hL => by
    rcases Nat.lt_or_ge b (T.S (i + 1)).size with hb | hb
    · rw [hlow hb] at hL
      cases hq : ρ.L b v with
      | none => exact .inr ⟨hL, hb, rfl⟩
      | some r' =>
        have := (hlow hb).1 (hkeepL hq)
        rw [hL] at this
        cases this
        exact .inl rfl
    · exact .inl ((hhigh hb).1 hL)
  have hnewL : ∀ {b v r : Nat}, ρ'.L b v = some r → ρ.L b v = none → ((T.S i).size ≤ b ∧ b < (T.S (i + 1)).size ∧ w.heap.size ≤ r) ∨ (b ∈ (T.D i).wr ∧ ∃ v₀ r₀, ρ.L b v₀ = some r₀ ∧ (w.heap.size ≤ r ∨ r = r₀)) := fun {b v r} h1 h2 => by
    have h3 : (ρ.below (T.S i).size).L b v = none := by
      cases hq : (ρ.below (T.S i).size).L b v with
      | none => rfl
      | some r' => rw [(below_some.1 hq).2] at h2; cases h2
    rcases d.newL h1 h3 with h4 | ⟨h4, v₀, r₀, h5, h6⟩
    · exact .inl h4
    · exact .inr ⟨h4, v₀, r₀, (below_some.1 h5).2, h6⟩
  have hon : ∀ k, On (listed.setIfInBounds i true) k ↔ k = i ∨ On listed k := fun k => on_set hil
  refine ⟨ρ'', fun b => if T.touch i b then i + 1 else κ b, fun t => if oi.dst = some t then i + 1 else μ t, ?_⟩
  refine { lsize := by simpa using j.lsize, down := down_set j.down j.lsize his ho hall, tsize := ?_, defs := ?_, names := ?_, inj := ?_, lt := ?_, slt := d.slt, cont := ?_, vers := ?_, kap := ?_, kapLast := ?_, env := ?_, mu := ?_, muLast := ?_, keeps := j.keeps.trans K, old := j.old, grows := Nat.le_trans j.grows d.grows, newL := ?_, newS := ?_, rest := ?_, world := ?_ }
  · cases hd : oi.dst <;> simp [Act.put, j.tsize]
  · cases hd : oi.dst <;> simp [Act.put, j.defs]
  · intro b v r hL
    rcases hfrom hL with h1 | ⟨h1, h2, h3⟩
    · rcases j.names h1 with h4 | ⟨k, h4, h5⟩
      · exact .inl h4
      · exact .inr ⟨k, (hon k).2 (.inr h4), h5⟩
    · rcases hnewL h1 h3 with ⟨h4, h5, _⟩ | ⟨_, v₀, r₀, h4, _⟩
      · exact .inr ⟨i, (hon i).2 (.inl rfl), his, h4, h5⟩
      · rcases j.names h4 with h5 | ⟨k, h5, h6⟩
        · exact .inl h5
        · exact .inr ⟨k, (hon k).2 (.inr h5), h6⟩
  · -- inj
    have mixed : ∀ {b v b' v' r : Nat}, ρ.L b v = some r → ρ'.L b' v' = some r → ρ.L b' v' = none → b = b' := fun {b v b' v' r} h1 h2 h3 => by
      rcases hnewL h2 h3 with ⟨_, _, h4⟩ | ⟨_, v₀, r₀, h4, h5⟩
      · exact absurd (j.lt h1) (by omega)
      · rcases h5 with h5 | h5
        · exact absurd (j.lt h1) (by omega)
        · subst h5; exact j.inj h1 h4
    intro b v b' v' r h1 h2
    rcases hfrom h1 with g1 | ⟨g1, g2, g3⟩ <;> rcases hfrom h2 with k1 | ⟨k1, k2, k3⟩
    · exact j.inj g1 k1
    · exact mixed g1 k1 k3
    · exact (mixed k1 g1 g3).symm
    · exact d.inj g1 k1
  · intro b v r hL
    rcases hfrom hL with h1 | ⟨h1, _, _⟩
    · exact Nat.lt_of_lt_of_le (j.lt h1) d.grows
    · exact d.lt h1
  · -- cont
    intro b blk r hg hL
    by_cases ht : T.touch i b
    · simp only [ht, if_true] at hg ⊢
      have hb := c.dom (i + 1) (by omega) hg
      obtain ⟨h1, h2⟩ := d.cont ht hg ((hlow hb).1 hL)
      exact ⟨BRel.keeps K' rfl h1, h2⟩
    · simp only [ht, if_false] at hg ⊢
      have hL1 := hback ht hL
      obtain ⟨h1, h2⟩ := j.cont hg hL1
      have hheap : w'.heap[r]? = w.heap[r]? := d.rest (j.lt hL1) (fun b' v' hb' => by
        have : b' = b := j.inj (below_some.1 hb').2 hL1
        subst this
        exact fun hw => ht (.inl hw))
      refine ⟨BRel.keeps (Kb _) hheap h1, fun o hS => ?_⟩
      rcases d.newS hS with h3 | h3 | ⟨b', v', h3, h4⟩
      · exact h2 o h3
      · exact absurd (j.lt hL1) (by omega)
      · have : b' = b := j.inj (below_some.1 h3).2 hL1
        subst this
        exact absurd (.inl h4) ht
  · -- vers
    intro b blk v r hg hL
    by_cases ht : T.touch i b
    · simp only [ht, if_true] at hg
      have hb := c.dom (i + 1) (by omega) hg
      exact d.vers ht hg ((hlow hb).1 hL)
    · simp only [ht, if_false] at hg
      exact j.vers hg (hback ht hL)
  · intro b
    by_cases ht : T.touch i b
    · simp only [ht, if_true]
      exact .inr ⟨i, (hon i).2 (.inl rfl), his, rfl, ht⟩
    · simp only [ht, if_false]
      rcases j.kap b with h1 | ⟨k, h1, h2⟩
      · exact .inl h1
      · exact .inr ⟨k, (hon k).2 (.inr h1), h2⟩
  · intro b k hk hks hle
    by_cases ht : T.touch i b
    · simp only [ht, if_true] at hle
      rcases (hon k).1 hk with h1 | h1
      · omega
      · have hu := unord_later j.down hni h1 (by omega) hks
        have hp := c.pairs i k hu
        simp only [pairOk, Bool.and_eq_true] at hp
        rintro (h2 | ⟨h2, _⟩)
        · obtain ⟨h3, h4⟩ := wrOk_spec hp.1 h2
          rcases ht with h5 | ⟨h5, h6⟩
          · exact h3 h5
          · have := c.made his h5 h6
            omega
        · have hs2 := c.size_le (i := i + 1) (j := k) (by omega) (by omega)
          rcases ht with h5 | ⟨h5, h6⟩
          · have := c.wr_lt his h5; omega
          · omega
    · simp only [ht, if_false] at hle
      rcases (hon k).1 hk with h1 | h1
      · subst h1; exact ht
      · exact j.kapLast b k h1 hks hle
  · -- env
    intro t htl
    by_cases hd : oi.dst = some t
    · simp only [hd, if_true]
      rw [hd] at hdst
      simp only [Option.all_some, decide_eq_true_eq] at hdst
      rw [c.env_succ ho htl, if_pos hd]
      have : (a.put (some t) v').tmps.getD t undef = v' := by simp [Act.put, Array.getD_eq_getD_getElem?, Array.getElem?_setIfInBounds, j.tsize, hdst]
      rw [this]
      exact d.rel.keep K'
    · simp only [hd, if_false]
      have : (a.put oi.dst v').tmps.getD t undef = a.tmps.getD t undef := by
        cases hdd : oi.dst with
        | none => rfl
        | some d' =>
          have hne : d' ≠ t := fun e => hd (by rw [hdd, e])
          simp [Act.put, Array.getD_eq_getD_getElem?, Array.getElem?_setIfInBounds, hne]
      rw [this]
      exact (j.env t htl).keep (Kb _)
  · intro t
    by_cases hd : oi.dst = some t
    · simp only [hd, if_true]
      exact .inr ⟨i, oi, (hon i).2 (.inl rfl), ho, rfl, hd⟩
    · simp only [hd, if_false]
      rcases j.mu t with h1 | ⟨k, o, h1, h2⟩
      · exact .inl h1
      · exact .inr ⟨k, o, (hon k).2 (.inr h1), h2⟩
  · intro t k o hk hok hle
    by_cases hd : oi.dst = some t
    · simp only [hd, if_true] at hle
      rcases (hon k).1 hk with h1 | h1
      · omega
      · have hap := c.ord.apart (i := i) (j := k) (by omega) ho hok (fun e he hb hh => by
          have := j.down k o hok h1 e he hb
          rw [hh] at this
          exact hni this)
        exact (Oper.apart_spec hap).2.1 t hd
    · simp only [hd, if_false] at hle
      rcases (hon k).1 hk with h1 | h1
      · subst h1; rw [ho] at hok; cases hok; exact hd
      · exact j.muLast t k o h1 hok hle
  · -- newL
    intro b v r hL h0
    rcases hfrom hL with h1 | ⟨h1, h2, h3⟩
    · exact j.newL h1 h0
    · rcases hnewL h1 h3 with ⟨h4, h5, h6⟩ | ⟨h4, v₀, r₀, h5, h6⟩
      · have := j.grows
        exact .inl ⟨by omega, by omega, by omega⟩
      · have hm : b ∈ hout.wr ∨ h₀.mark ≤ b := by
          rcases Nat.lt_or_ge b h₀.mark with h7 | h7
          · exact .inl (hout2 i b his h4 h7)
          · exact .inr h7
        cases h7 : ρ₀.L b v₀ with
        | some r₁ =>
          have := j.keeps.L h7
          rw [h5] at this
          cases this
          exact .inr ⟨hm, v₀, _, h7, h6.imp (Nat.le_trans j.grows) id⟩
        | none =>
          rcases j.newL h5 h7 with ⟨h8, h9, h10⟩ | ⟨_, v₁, r₁, h8, h9⟩
          · refine .inl ⟨h8, h9, ?_⟩
            rcases h6 with h6 | h6
            · exact Nat.le_trans j.grows h6
            · exact h6 ▸ h10
          · refine .inr ⟨hm, v₁, r₁, h8, ?_⟩
            rcases h6 with h6 | h6
            · exact .inl (Nat.le_trans j.grows h6)
            · rw [h6]; exact h9
  · -- newS
    intro r o hS
    rcases d.newS hS with h1 | h1 | ⟨b, v, h1, h2⟩
    · exact j.newS h1
    · exact .inr (.inl (Nat.le_trans j.grows h1))
    · have hm : b ∈ hout.wr ∨ h₀.mark ≤ b := by
        rcases Nat.lt_or_ge b h₀.mark with h7 | h7
        · exact .inl (hout2 i b his h2 h7)
        · exact .inr h7
      have h3 := (below_some.1 h1).2
      cases h4 : ρ₀.L b v with
      | some r' =>
        have := j.keeps.L h4
        rw [h3] at this
        cases this
        exact .inr (.inr ⟨b, v, h4, hm⟩)
      | none =>
        rcases j.newL h3 h4 with ⟨_, _, h5⟩ | ⟨_, v₀, r₀, h5, h6⟩
        · exact .inr (.inl h5)
        · rcases h6 with h6 | h6
          · exact .inr (.inl h6)
          · exact .inr (.inr ⟨b, v₀, h6 ▸ h5, hm⟩)
  · -- rest
    intro r hr' hb
    rw [← j.rest hr' hb]
    refine d.rest (Nat.lt_of_lt_of_le hr' j.grows) (fun b v hL hw => ?_)
    have h3 := (below_some.1 hL).2
    cases h4 : ρ₀.L b v with
    | some r' =>
      have := j.keeps.L h4
      rw [h3] at this
      cases this
      have := hb b v h4
      exact this.2 (hout2 i b his hw this.1)
    | none =>
      rcases j.newL h3 h4 with ⟨_, _, h5⟩ | ⟨_, v₀, r₀, h5, h6⟩
      · omega
      · rcases h6 with h6 | h6
        · omega
        · have := hb b v₀ (h6 ▸ h5)
          exact this.2 (hout2 i b his hw this.1)
  · exact ⟨d.world.1.trans j.world.1, d.world.2.1.trans j.world.2.1, d.world.2.2.trans j.world.2.2⟩

end join
end
end Go.E

namespace Go.E
variable {P : Program} {C : Ctx} {call : E.Call}

/-! ### A reading of a map beside the laying of an entry -/
def LookEq (k z : V) (es es' : List (V × V)) : Prop := es' = es ∨ (es' = es ++ [(k, z)] ∧ k ∉ es.map (·.1))

theorem findE_new {q : Eq'} {k z : V} (hk : keyOk q k = true) : ∀ (es : List (V × V)) (r : Option V), k ∉ es.map (·.1) → findE q k es = some r → r = none ∧ findE q k (es ++ [(k, z)]) = some (some z)
  | [], r, _, h => by
    simp only [findE, Option.some.injEq] at h
    subst h
    have : keq q k k = some true := by
      unfold keyOk at hk
      simp only [Bool.and_eq_true] at hk
      have h2 := hk.2
      split at h2
      · rename_i t ht; rw [ht, h2]
      · cases h2
    simp [findE, this]
  | (a, v) :: es, r, hn, h => by
    simp only [List.map_cons, List.mem_cons, not_or] at hn
    simp only [findE] at h
    simp only [List.cons_append, findE]
    split at h
    · rename_i hq
      exact absurd (beqV_eq _ _ (keq_spec hq).2) hn.1
    · rename_i hq
      exact findE_new hk es r hn.2 h
    · cases h

theorem eqInt_eq {a b : V} (h : eqInt a b = true) : a = b ∧ ∃ k n, a = .int k n := by
  unfold eqInt at h
  split at h
  · simp only [Bool.and_eq_true, decide_eq_true_eq, beq_iff_eq] at h
    obtain ⟨rfl, rfl⟩ := h
    exact ⟨rfl, _, _, rfl⟩
  · cases h

theorem LookEq.ment {q : Eq'} {k z : V} {es es' : List (V × V)} (hk : keyOk q k = true) (h : LookEq k z es es') :
    (∀ v, findE q k es' = some (some v) → LookEq k z es es') ∧ (findE q k es' = some none → LookEq k z es (es' ++ [(k, z)])) := by
  refine ⟨fun _ _ => h, fun h2 => ?_⟩
  rcases h with rfl | ⟨rfl, hn⟩
  · exact .inr ⟨rfl, find_none (keyOk_spec hk).2.2 _ h2⟩
  · have hfull : ∀ (l : List (V × V)), findE q k (l ++ [(k, z)]) ≠ some none := by
      intro l hh
      have := find_none (keyOk_spec hk).2.2 _ hh
      simp at this
    exact absurd h2 (hfull es)

/-- a reading, at entries that have perhaps the one that was looked for -/
theorem look_eq {q : Eq'} {k z : V} {es es' : List (V × V)} {r : Option V} (hk : keyOk q k = true) (h : LookEq k z es es') (hf : findE q k es = some r) :
    ∃ r', findE q k es' = some r' ∧ r'.getD z = r.getD z := by
  rcases h with rfl | ⟨rfl, hn⟩
  · exact ⟨r, hf, rfl⟩
  · obtain ⟨rfl, h2⟩ := findE_new (z := z) hk es r hn hf
    exact ⟨_, h2, rfl⟩

section
variable {n : Nat} {ops : Array Oper} {T : Tr}
variable {ρ₀ : Rn} {h₀ hout : H} {w₀ : World} {a₀ a : Act} {listed : Array Bool} {ρ ρ' : Rn} {κ μ : Nat → Nat} {w w' : World} {i : Nat} {oi : Oper}

/-! ### What an operation that comes up finds -/
theorem J.kap_le (j : J P C n ops T ρ₀ h₀ hout w₀ a₀ listed ρ κ μ a w) (b : Nat) : κ b ≤ ops.size := by
  rcases j.kap b with h | ⟨k, _, h1, h2, _⟩ <;> omega

theorem J.agree_le (c : Cx P C call n ops T) (j : J P C n ops T ρ₀ h₀ hout w₀ a₀ listed ρ κ μ a w) (his : i < ops.size) {b v r : Nat} {blk : Blk}
    (hpair : ∀ k, k < ops.size → ¬ On listed k ∧ k < i → b ∉ (T.D k).wr) (hg : (T.S i).get b = some blk) (hL : ρ.L b v = some r) (hle : κ b ≤ i) : (T.S (κ b)).get b = some blk := by
  have hb := c.dom i (by omega) hg
  have hnt : ∀ k, κ b ≤ k → k < i → ¬ T.touch k b := by
    intro k h1 h2
    by_cases hk : On listed k
    · exact j.kapLast b k hk (by omega) h1
    · rintro (h3 | h3)
      · exact hpair k (by omega) ⟨hk, h2⟩ h3
      · exact j.notMade c hk (by omega) hL h3
  have hs := c.small hle (by omega) hb hnt
  rw [← c.get_many hle (by omega) hs hnt]; exact hg

theorem J.lowNames (c : Cx P C call n ops T) (j : J P C n ops T ρ₀ h₀ hout w₀ a₀ listed ρ κ μ a w) {b v r : Nat} (hL : ρ.L b v = some r) : b < (T.S ops.size).size := by
  rcases j.names hL with h | ⟨k, _, h1, _, h2⟩
  · exact Nat.lt_of_lt_of_le h (c.size_le (Nat.zero_le _) (Nat.le_refl _))
  · exact Nat.lt_of_lt_of_le h2 (c.size_le (by omega) (Nat.le_refl _))

theorem J.agree (c : Cx P C call n ops T) (j : J P C n ops T ρ₀ h₀ hout w₀ a₀ listed ρ κ μ a w) (hr : i ∈ Region.ready .any ops listed) (ho : ops[i]? = some oi) {b v r : Nat} {blk : Blk}
    (hpair : ∀ k, k < ops.size → (On listed k ∧ i < k) ∨ (¬ On listed k ∧ k < i) → b ∉ (T.D k).wr) (hg : (T.S i).get b = some blk) (hL : ρ.L b v = some r) : (T.S (κ b)).get b = some blk ∧ κ b ≤ i := by
  obtain ⟨hni, o', ho', hall⟩ := ready_spec hr
  have his : i < ops.size := (Array.getElem?_eq_some_iff.1 ho).1
  have hb := c.dom i (by omega) hg
  have hle : κ b ≤ i := by
    rcases j.kap b with h | ⟨k, h1, h2, h3, h4⟩
    · omega
    · rcases Nat.lt_trichotomy k i with h5 | h5 | h5
      · omega
      · subst h5; exact absurd h1 hni
      · rcases h4 with h4 | ⟨h4, _⟩
        · exact absurd h4 (hpair k h2 (.inl ⟨h1, h5⟩))
        · have := c.size_le (i := i) (j := k) (by omega) (by omega)
          omega
  have hnt : ∀ k, κ b ≤ k → k < i → ¬ T.touch k b := by
    intro k h1 h2
    by_cases hk : On listed k
    · exact j.kapLast b k hk (by omega) h1
    · rintro (h3 | h3)
      · exact hpair k (by omega) (.inr ⟨hk, h2⟩) h3
      · exact j.notMade c hk (by omega) hL h3
  have hs := c.small hle (by omega) hb hnt
  exact ⟨by rw [← c.get_many hle (by omega) hs hnt]; exact hg, hle⟩

theorem J.inv (c : Cx P C call n ops T) (j : J P C n ops T ρ₀ h₀ hout w₀ a₀ listed ρ κ μ a w) (his : i < ops.size) {X : Nat → Prop}
    (hX : ∀ b blk v r, X b → (T.S i).get b = some blk → ρ.L b v = some r → (T.S (κ b)).get b = some blk ∧ κ b ≤ i) : Inv P X (ρ.below (T.S i).size) (T.S i) w where
  dom := c.dom i (by omega)
  fresh := fun {b v} hb => by
    cases h : (ρ.below (T.S i).size).L b v with
    | none => rfl
    | some r => have := (below_some.1 h).1; omega
  inj := fun h1 h2 => j.inj (below_some.1 h1).2 (below_some.1 h2).2
  lt := fun h1 => j.lt (below_some.1 h1).2
  slt := j.slt
  mark := by rw [(c.norm i (by omega)).1]; exact Nat.le_refl _
  stab := fun {b blk r o} hx hg hL hS => (j.cont (hX b blk _ r hx hg (below_some.1 hL).2).1 (below_some.1 hL).2).2 o hS
  vers := fun {b blk v r} hx hg hL => j.vers (hX b blk v r hx hg (below_some.1 hL).2).1 (below_some.1 hL).2
  blk := fun {b blk r} hx hg hL => by
    obtain ⟨h1, h2⟩ := hX b blk _ r hx hg (below_some.1 hL).2
    exact BRel.keeps (keeps_below_le (c.size_le h2 (by omega))) rfl (j.cont h1 (below_some.1 hL).2).1

def sees (ops : Array Oper) (o : Oper) (t : Ix) : Bool := decide (t = ix 511) || (o.looksAt ops).any fun u => decide (u < 512) && decide (ix u = t)

theorem J.erel (c : Cx P C call n ops T) (j : J P C n ops T ρ₀ h₀ hout w₀ a₀ listed ρ κ μ a w) (hr : i ∈ Region.ready .any ops listed) (ho : ops[i]? = some oi) :
    ERel (ρ.below (T.S i).size) w a.tmps (maskE (sees ops oi) (T.E i)) := by
  obtain ⟨hni, o', ho', hall⟩ := ready_spec hr
  rw [ho] at ho'; cases ho'
  have his : i < ops.size := (Array.getElem?_eq_some_iff.1 ho).1
  have hn := c.hn
  refine ⟨by rw [j.tsize]; omega, fun t ht => ?_⟩
  rw [maskE_get]
  split
  · rename_i hs
    have hsee : t = 511 ∨ t ∈ oi.looksAt ops := by
      simp only [sees, Bool.or_eq_true, decide_eq_true_eq, List.any_eq_true, Bool.and_eq_true] at hs
      rcases hs with hs | ⟨u, hu, h1, h2⟩
      · exact .inl (ix_inj ht (by omega) hs)
      · have := ix_inj h1 ht h2
        subst this
        exact .inr hu
    have hle : μ t ≤ i := by
      rcases j.mu t with h | ⟨k, o, h1, h2, h3, h4⟩
      · omega
      · rcases Nat.lt_trichotomy k i with h5 | h5 | h5
        · omega
        · subst h5; exact absurd h1 hni
        · exfalso
          have hd := c.dst_lt h2
          rw [h4] at hd
          simp only [Option.all_some, decide_eq_true_eq] at hd
          rcases hsee with hsee | hsee
          · omega
          · have hap := c.ord.apart (i := i) (j := k) h5 ho h2 (fun e he hb hh => by
              have := j.down k o h2 h1 e he hb
              rw [hh] at this
              exact hni this)
            exact (Oper.apart_spec hap).2.2 t h4 hsee
    have hnd : ∀ k o, μ t ≤ k → k < i → ops[k]? = some o → o.dst ≠ some t := by
      intro k o h1 h2 h3 h4
      by_cases hk : On listed k
      · exact j.muLast t k o hk h3 h1 h4
      · have hd := c.dst_lt h3
        rw [h4] at hd
        simp only [Option.all_some, decide_eq_true_eq] at hd
        rcases hsee with hsee | hsee
        · omega
        · have hap := c.ord.apart (i := k) (j := i) h2 h3 ho (fun e he hb hh => by
            have := hall e he hb
            rw [hh] at this
            exact hk this)
          exact (Oper.apart_spec hap).1 t h4 hsee
    rw [c.env_many hle (by omega) ht hnd]
    exact (j.env t ht).keep (keeps_below_le (c.size_le hle (by omega)))
  · exact .junk _

theorem J.globs (c : Cx P C call n ops T) (j : J P C n ops T ρ₀ h₀ hout w₀ a₀ listed ρ κ μ a w) (his : i < ops.size) (hg : Globs ρ₀ w₀ C) : Globs (ρ.below (T.S i).size) w C :=
  hg.keep (j.keeps.names (fun hL => below_some.2 ⟨Nat.lt_of_lt_of_le (j.old hL) (c.size_le (Nat.zero_le _) (by omega)), j.keeps.L hL⟩) (fun h => h) (fun h => j.keeps.S h))

theorem mask_op (c : Cx P C call n ops T) (ho : ops[i]? = some oi) : ∀ x ∈ (compOper P n ops oi).op.opds, x.get C (T.E i) = x.get C (maskE (sees ops oi) (T.E i)) := by
  intro x hx
  refine mask_opd fun t ht => ?_
  have h1 := List.all_eq_true.1 c.oks oi (by rw [← Array.getElem?_toList] at ho; exact List.mem_of_getElem? ho)
  have h2 := List.all_eq_true.1 (List.all_eq_true.1 h1 x hx) t ht
  obtain ⟨y, hy, h3⟩ := List.any_eq_true.1 h2
  simp only [sees, Bool.or_eq_true, List.any_eq_true]
  right
  split at h3
  · rename_i u
    exact ⟨u, List.mem_append_left _ (List.mem_filterMap.2 ⟨_, hy, rfl⟩), h3⟩
  · cases h3

theorem mask_guard (hn : n ≤ 511) : wanted (maskE (sees ops oi) (T.E i)) (compOper P n ops oi).guard = wanted (T.E i) (compOper P n ops oi).guard := by
  simp only [compOper]
  split
  · cases hg : oi.guard with
    | none => rfl
    | some p =>
      obtain ⟨jj, want⟩ := p
      simp only [Option.map_some, wanted, maskE_get]
      rw [if_pos]
      simp only [sees, Bool.or_eq_true, decide_eq_true_eq, List.any_eq_true, Bool.and_eq_true]
      cases hf : Option.filter (fun x => decide (x < n)) (ops[jj]?.bind fun x => x.dst) with
      | none => left; rfl
      | some d =>
        obtain ⟨h1, h2⟩ := Option.filter_eq_some_iff.1 hf
        simp only [Option.getD_some]
        have h5 : d < n := by simpa using h2
        right
        refine ⟨d, List.mem_append_right _ ?_, Nat.lt_of_lt_of_le h5 (by omega), rfl⟩
        simp only [hg, h1, Option.toList_some, List.mem_singleton]
  · rfl

/-! ### An operation carried out -/
theorem sim_simple (hC : CtxOk P C) {X : Nat → Prop} {ρ : Rn} {h : H} {w : World} {a : Act} {env : Env} (I : Inv P X ρ h w) (he : ERel ρ w a.tmps env) (hg : Globs ρ w C) {o : Oper} {eop : EOp} (hck : compOpK P o = some eop) (hk : eop.isCall = false)
    (hX : Foot X (foot C env eop)) : OpRun P X ρ h w ((execOp a.eval o).run P w) (simpleOp C env h eop) := by
  obtain ⟨hc, hkind⟩ := Option.filter_eq_some_iff.1 hck
  have hkind : eop.isCall = callsCode o.op := by simpa using hkind
  rw [hk] at hkind
  by_cases hcl : ∃ c, o.op = .call c
  · obtain ⟨c, hop⟩ := hcl
    cases hcal : c.callee with
    | builtin b => exact sim_builtin I he hg hop hcal hc hX
    | value x => rw [hop] at hkind; simp [callsCode, hcal] at hkind
    | invoke r m => rw [hop] at hkind; simp [callsCode, hcal] at hkind
  · exact sim_other I he hg hC.lies hc hX (fun c e => hcl ⟨c, e⟩)

theorem OpRun.next {X : Nat → Prop} {ρ : Rn} {h h' : H} {w : World} {r : Result Next} {t : V} {K : Value → World → Prop} (ho : OpRun P X ρ h w r (.ok t h'))
    (hk : ∀ v w' ρ', VRel ρ' w' v t → Inv P (fun b => X b ∨ h.size ≤ b) ρ' h' w' → Post ρ h w ρ' h' w' → K v w') : NextRun P r K (fun _ _ => False) := by
  obtain ⟨v, w', ρ', e, hv, I, p⟩ := ho
  rcases e with rfl | ⟨rfl, rfl⟩
  · exact hk _ _ _ hv I p
  · exact hk _ _ _ hv I p

theorem isCall_foot {env : Env} {op : EOp} (h : op.isCall = true) : foot C env op = none := by
  cases op <;> first | rfl | cases h

theorem apartOk_spec {l : List Nat} {f : Option (List Nat)} (h : apartOk l f = true) {b : Nat} (hb : b ∈ l) : ∃ fs, f = some fs ∧ b ∉ fs := by
  cases l with
  | nil => cases hb
  | cons x l =>
    cases f with
    | none => simp [apartOk] at h
    | some fs =>
      refine ⟨fs, rfl, fun hm => ?_⟩
      simp only [apartOk] at h
      have := List.all_eq_true.1 h b hm
      simp at this
      simp only [List.mem_cons] at hb
      rcases hb with rfl | hb
      · exact this.1 rfl
      · exact this.2 hb

/-- a tag, and what stands behind it -/
theorem tag_look {env : Env} {op : EOp} {t : Tag} (h : tagOf C env op = some t) (hl : t.lays = false) : ∃ q z m k, op = .look q z m k false ∧ m.get C env = .map t.b ∧ t.k = k.get C env ∧ t.z = z := by
  unfold tagOf at h
  split at h
  · split at h
    · rename_i hm
      cases h
      exact ⟨_, _, _, _, rfl, hm, rfl, rfl⟩
    · cases h
  · split at h
    · cases h; cases hl
    · cases h
  · cases h

theorem tag_ment {env : Env} {op : EOp} {t : Tag} (h : tagOf C env op = some t) (hl : t.lays = true) : ∃ q z m k, op = .ment q z m k ∧ m.get C env = .map t.b ∧ t.k = k.get C env ∧ t.z = z := by
  unfold tagOf at h
  split at h
  · split at h
    · cases h; cases hl
    · cases h
  · split at h
    · rename_i hm
      cases h
      exact ⟨_, _, _, _, rfl, hm, rfl, rfl⟩
    · cases h
  · cases h

theorem tagOk_spec {x y : Did} (h : tagOk x y = true) : ∃ t u, x.tag = some t ∧ y.tag = some u ∧ t.lays = false ∧ u.lays = true ∧ t.b = u.b ∧ t.k = u.k ∧ t.z = u.z ∧ (∃ k n, x.res = .int k n) := by
  unfold tagOk at h
  split at h
  · rename_i t u ht hu
    simp only [Bool.and_eq_true, Bool.not_eq_true', nbeq, decide_eq_true_eq] at h
    obtain ⟨⟨⟨⟨⟨h1, h2⟩, h3⟩, h4⟩, h5⟩, h6⟩ := h
    exact ⟨t, u, ht, hu, h1, h2, h3, beqV_eq _ _ h4, (eqInt_eq h5).1, (eqInt_eq h6).2⟩
  · cases h

theorem Cx.tag_run (c : Cx P C call n ops T) (ho : ops[i]? = some oi) {t : Tag} (ht : (T.D i).tag = some t) :
    ∃ h', runOp C call (T.E i) (T.S i) (compOper P n ops oi).op = .ok (T.V i) h' ∧ T.S (i + 1) = h'.norm ∧ (T.D i).wr = h'.wr ∧ tagOf C (T.E i) (compOper P n ops oi).op = some t ∧ (T.D i).res = T.V i := by
  rcases c.stepAt ho with ⟨_, _, h3, _⟩ | ⟨_, _, h', h2, h4, h5⟩
  · rw [h3] at ht; cases ht
  · rw [h5] at ht
    exact ⟨h', h2, h4, by rw [h5], ht, by rw [h5]⟩

/-- a reading of a map, in E -/
theorem look_run {env : Env} {h h' : H} {q : Eq'} {z : V} {m k : Opd} {v : V} {b : Nat} (hr : simpleOp C env h (.look q z m k false) = .ok v h') (hm : m.get C env = .map b) :
    h' = h ∧ keyOk q (k.get C env) = true ∧ ∃ es r, h.get b = some (.map es) ∧ findE q (k.get C env) es = some r ∧ v = r.getD z := by
  simp only [simpleOp, hm, Bool.cond_eq_ite] at hr
  split at hr
  · cases hr
  · rename_i hk
    split at hr
    · rename_i es hg
      split at hr
      · rename_i x hf
        cases hr
        exact ⟨rfl, by simpa using hk, es, some x, hg, hf, rfl⟩
      · rename_i hf
        cases hr
        exact ⟨rfl, by simpa using hk, es, none, hg, hf, rfl⟩
      · cases hr
    · cases hr

theorem look_back {env : Env} {h : H} {q : Eq'} {z : V} {m k : Opd} {b : Nat} {es : List (V × V)} {r : Option V} (hm : m.get C env = .map b) (hk : keyOk q (k.get C env) = true) (hg : h.get b = some (.map es)) (hf : findE q (k.get C env) es = some r) :
    simpleOp C env h (.look q z m k false) = .ok (r.getD z) h := by
  simp only [simpleOp, hm, Bool.cond_eq_ite, hk, hg, hf]
  cases r <;> rfl

theorem ment_run {env : Env} {h h' : H} {q : Eq'} {z : V} {m k : Opd} {v : V} {b : Nat} (hr : simpleOp C env h (.ment q z m k) = .ok v h') (hm : m.get C env = .map b) :
    keyOk q (k.get C env) = true ∧ ∃ es, h.get b = some (.map es) ∧ ((∃ x, findE q (k.get C env) es = some (some x) ∧ h' = h.put b (.map es)) ∨ (findE q (k.get C env) es = some none ∧ h' = h.put b (.map (es ++ [(k.get C env, z)])))) := by
  simp only [simpleOp, hm, Bool.cond_eq_ite] at hr
  split at hr
  · cases hr
  · rename_i hk
    split at hr
    · rename_i es hg
      split at hr
      · rename_i x hf
        cases hr
        exact ⟨by simpa using hk, es, hg, .inl ⟨x, hf, rfl⟩⟩
      · rename_i hf
        cases hr
        exact ⟨by simpa using hk, es, hg, .inr ⟨hf, rfl⟩⟩
      · cases hr
    · cases hr

theorem J.run (c : Cx P C call n ops T) (j : J P C n ops T ρ₀ h₀ hout w₀ a₀ listed ρ κ μ a w) (_hnames : ∀ {b v r : Nat}, ρ.L b v = some r → b < (T.S ops.size).size) (hg0 : Globs ρ₀ w₀ C) (hr : i ∈ Region.ready .any ops listed) (ho : ops[i]? = some oi) {h' : H}
    (hrun : runOp C call (T.E i) (T.S i) (compOper P n ops oi).op = .ok (T.V i) h') (hs : T.S (i + 1) = h'.norm) (hD : T.D i = ⟨h'.wr, footOf C (T.E i) (compOper P n ops oi).op h'.wr, tagOf C (T.E i) (compOper P n ops oi).op, T.V i, (T.S i).size, h'.size⟩) :
    NextRun P ((execOp a.eval oi).run P w) (fun v' w' => ∃ ρ', OpDone P T i ρ w v' w' ρ') (fun _ _ => False) := by
  obtain ⟨hni, o', ho', hall⟩ := ready_spec hr
  rw [ho] at ho'; cases ho'
  have his : i < ops.size := (Array.getElem?_eq_some_iff.1 ho).1
  have he := j.erel c hr ho
  have hg := j.globs c his hg0
  have hmask := mask_op c ho
  have hother : (compOper P n ops oi).op ≠ .other := fun e => by rw [e] at hrun; cases hrun
  obtain ⟨_, hck⟩ := compOper_op hother
  have hwr : (T.D i).wr = h'.wr := by rw [hD]
  have hrun' : runOp C call (maskE (sees ops oi) (T.E i)) (T.S i) (compOper P n ops oi).op = .ok (T.V i) h' := by rw [← runOp_congr hmask]; exact hrun
  generalize (compOper P n ops oi).op = eop at *
  by_cases hplain : ∀ k, k < ops.size → (On listed k ∧ i < k) ∨ (¬ On listed k ∧ k < i) → apartOk (T.D k).wr (T.D i).foot = true
  · cases hcall : eop.isCall with
    | true =>
      have hfoot : (T.D i).foot = none := by rw [hD]; simp [footOf, isCall_foot hcall]
      have I := j.inv c his (X := All) (fun b blk v r _ h1 h2 => j.agree c hr ho (fun k h3 h4 h5 => by
        obtain ⟨fs, h6, _⟩ := apartOk_spec (hplain k h3 h4) h5
        rw [hfoot] at h6; cases h6) h1 h2)
      have hout := sim_op c.hC c.sim I he hg hck
      rw [hrun'] at hout
      refine NextRun.mono (show NextRun P _ _ _ from hout) (fun v w' hgood => ?_) (fun _ _ h => h)
      obtain ⟨ρ', hv, I', p⟩ := hgood
      exact ⟨ρ', OpDone.of c his (X := All) hv (I'.more fun b _ => .inl trivial) p hs hwr (fun _ _ => trivial)⟩
    | false =>
      have hsimple : runOp C call (maskE (sees ops oi) (T.E i)) (T.S i) eop = simpleOp C (maskE (sees ops oi) (T.E i)) (T.S i) eop := by
        cases eop <;> first | rfl | cases hcall
      have hfc := foot_congr (C := C) hmask
      -- the blocks that it is held against
      have main : ∀ X : Nat → Prop, Foot X (foot C (T.E i) eop) → (∀ b ∈ (T.D i).wr, X b) → (∀ b, X b → ∀ fs, (T.D i).foot = some fs → b ∈ fs) → NextRun P ((execOp a.eval oi).run P w) (fun v' w' => ∃ ρ', OpDone P T i ρ w v' w' ρ') (fun _ _ => False) := by
        intro X hX hXw hXf
        have I := j.inv c his (X := X) (fun b blk v r hx h1 h2 => j.agree c hr ho (fun k h3 h4 h5 => by
          obtain ⟨fs, h6, h7⟩ := apartOk_spec (hplain k h3 h4) h5
          exact h7 (hXf b hx fs h6)) h1 h2)
        have hout := sim_simple c.hC I he hg hck hcall (by rw [← hfc]; exact hX)
        rw [← hsimple, hrun'] at hout
        exact hout.next fun v w' ρ' hv I' p => ⟨ρ', OpDone.of c his hv I' p hs hwr hXw⟩
      cases hf : (T.D i).foot with
      | none => exact main All (by cases foot C (T.E i) eop <;> simp [Foot]) (fun _ _ => trivial) (fun b _ fs h => by rw [hf] at h; cases h)
      | some fs =>
        have h1 : footOf C (T.E i) eop h'.wr = some fs := by rw [← hf, hD]
        simp only [footOf] at h1
        split at h1
        · rename_i f hff
          simp only [Bool.cond_eq_ite] at h1
          split at h1
          · rename_i hw
            cases h1
            refine main (· ∈ fs) (by rw [hff]; exact fun b hb => hb) (fun b hb => ?_) (fun b hb fs' h => by rw [hf] at h; cases h; exact hb)
            rw [hwr] at hb
            simpa using List.all_eq_true.1 hw b hb
          · cases h1
        · cases h1
  · -- a reading, and the entry perhaps laid already
    simp only [Classical.not_forall] at hplain
    obtain ⟨k, hks, hk, hno⟩ := hplain
    have hki : (On listed k ∧ i < k) ∧ tagOk (T.D i) (T.D k) = true := by
      rcases hk with ⟨h1, h2⟩ | ⟨h1, h2⟩
      · have hp := c.pairs i k (unord_later j.down hni h1 h2 hks)
        simp only [pairOk, Bool.and_eq_true, Bool.or_eq_true] at hp
        rcases hp.2 with h3 | h3
        · exact absurd h3.2 hno
        · exact ⟨⟨h1, h2⟩, h3⟩
      · have hp := c.pairs k i (unord_ahead j.down j.lsize his ho hall h1 h2)
        simp only [pairOk, Bool.and_eq_true, Bool.or_eq_true] at hp
        rcases hp.2 with h3 | h3
        · exact absurd h3.1 hno
        · exfalso
          obtain ⟨t, u, g1, g2, g3, g4, g5, g6, g7, _⟩ := tagOk_spec h3
          have hk' : ops[k]? = some ops[k] := Array.getElem?_eq_getElem hks
          obtain ⟨h'', k1, k2, k3, k4, _⟩ := c.tag_run hk' g1
          obtain ⟨q, z, m, kk, e1, e2, e3, e4⟩ := tag_look k4 g3
          rw [e1] at k1
          have := (look_run (show simpleOp C (T.E k) (T.S k) (.look q z m kk false) = .ok (T.V k) h'' from k1) e2).1
          rw [k3, this, (c.norm k (by omega)).2] at hno
          exact hno rfl
    obtain ⟨⟨hon, hik⟩, htag⟩ := hki
    obtain ⟨t, u₀, g1, g2, g3, g4, g5, g6, g7, kk₀, nn₀, g8⟩ := tagOk_spec htag
    have htag' : tagOf C (T.E i) eop = some t := by rw [hD] at g1; exact g1
    have hres : T.V i = .int kk₀ nn₀ := by rw [hD] at g8; exact g8
    obtain ⟨q, z, m, kx, rfl, e2, e3, e4⟩ := tag_look htag' g3
    obtain ⟨rfl, hkey, es, r₀, hes, hfind, hval⟩ := look_run (show simpleOp C (T.E i) (T.S i) (.look q z m kx false) = .ok (T.V i) h' from hrun) e2
    have hmx : m.get C (maskE (sees ops oi) (T.E i)) = .map t.b := by rw [← hmask m (by simp [EOp.opds])]; exact e2
    have hkx : kx.get C (maskE (sees ops oi) (T.E i)) = kx.get C (T.E i) := by rw [← hmask kx (by simp [EOp.opds])]
    have hDwr : (T.D i).wr = [] := by rw [hwr, (c.norm i (by omega)).2]
    have hSi : T.S (i + 1) = T.S i := by
      rw [hs]
      obtain ⟨g1, g2⟩ := c.norm i (by omega)
      generalize T.S i = s at g1 g2
      cases s
      simp only [H.norm] at *
      subst g1 g2
      rfl
    have hbi := c.dom i (by omega) hes
    -- the map as it stands
    have hfootI : (T.D i).foot = some [t.b] := by
      have h1 : (T.D i).foot = footOf C (T.E i) (.look q z m kx false) (T.S i).wr := by rw [hD]
      rw [h1, (c.norm i (by omega)).2]
      simp [footOf, foot, e2]
    have hahead : ∀ k, k < ops.size → ¬ On listed k ∧ k < i → t.b ∉ (T.D k).wr := by
      rintro k hks ⟨h1, h2⟩ hb
      have hp := c.pairs k i (unord_ahead j.down j.lsize his ho hall h1 h2)
      simp only [pairOk, Bool.and_eq_true, Bool.or_eq_true] at hp
      rcases hp.2 with h3 | h3
      · obtain ⟨fs, h4, h5⟩ := apartOk_spec h3.1 hb
        rw [hfootI] at h4
        cases h4
        exact h5 (by simp)
      · obtain ⟨t', u, k1, k2, k3, k4, _⟩ := tagOk_spec h3
        rw [g1] at k2
        cases k2
        rw [g3] at k4
        cases k4
    have hfc := foot_congr (C := C) hmask
    have hnt : ∀ b, ¬ T.touch i b := by
      rintro b (h1 | ⟨h1, h2⟩)
      · rw [hDwr] at h1; cases h1
      · rw [hSi] at h2; omega
    by_cases hnm : ∃ v r, ρ.L t.b v = some r
    · obtain ⟨v₁, r₁, hL₁⟩ := hnm
      have hchain : ∃ es', (T.S (κ t.b)).get t.b = some (.map es') ∧ LookEq (kx.get C (T.E i)) z es es' := by
        rcases Nat.lt_or_ge i (κ t.b) with hlt | hle
        · have hN := j.kap_le t.b
          have step : ∀ m, i < m → m ≤ κ t.b → ∃ es', (T.S m).get t.b = some (.map es') ∧ LookEq (kx.get C (T.E i)) z es es' := by
            intro m
            induction m with
            | zero => intro h; omega
            | succ m ih =>
              intro h1 h2
              by_cases hmi : m = i
              · subst hmi; rw [hSi]; exact ⟨es, hes, .inl rfl⟩
              · obtain ⟨es', h3, h4⟩ := ih (by omega) (by omega)
                have hbm : t.b < (T.S m).size := Nat.lt_of_lt_of_le hbi (c.size_le (by omega) (by omega))
                by_cases htm : T.touch m t.b
                · have hwm : t.b ∈ (T.D m).wr := htm.resolve_right (fun h => by omega)
                  by_cases hom : On listed m
                  · have hp := c.pairs i m (unord_later j.down hni hom (by omega) (by omega))
                    simp only [pairOk, Bool.and_eq_true, Bool.or_eq_true] at hp
                    rcases hp.2 with h5 | h5
                    · obtain ⟨fs, h6, h7⟩ := apartOk_spec h5.2 hwm
                      rw [hfootI] at h6
                      cases h6
                      exact absurd (by simp) h7
                    · obtain ⟨t', u, k1, k2, k3, k4, k5, k6, k7, _⟩ := tagOk_spec h5
                      rw [g1] at k1
                      cases k1
                      have hm' : ops[m]? = some ops[m] := Array.getElem?_eq_getElem (by omega)
                      obtain ⟨h'', l1, l2, l3, l4, _⟩ := c.tag_run hm' k2
                      obtain ⟨q', z', m', k', f1, f2, f3, f4⟩ := tag_ment l4 k4
                      rw [f1] at l1
                      obtain ⟨n1, es₂, n2, n3⟩ := ment_run (show simpleOp C (T.E m) (T.S m) (.ment q' z' m' k') = .ok (T.V m) h'' from l1) (k5 ▸ f2)
                      rw [h3] at n2
                      cases n2
                      have hkk : k'.get C (T.E m) = kx.get C (T.E i) := by rw [← f3, ← k6, e3]
                      have hzz : z' = z := by rw [← f4, ← k7, e4]
                      rw [hkk] at n1 n3
                      subst hzz
                      obtain ⟨p1, p2⟩ := h4.ment n1
                      rw [l2]
                      rcases n3 with ⟨x, n3, n4⟩ | ⟨n3, n4⟩
                      · exact ⟨es', by rw [n4, norm_get, H.get_put, if_pos rfl], p1 x n3⟩
                      · exact ⟨_, by rw [n4, norm_get, H.get_put, if_pos rfl], p2 n3⟩
                  · exfalso
                    rcases j.kap t.b with h5 | ⟨k', h5, h6, h7, h8⟩
                    · omega
                    · have hp := c.pairs m k' (unord_later j.down hom h5 (by
                        rcases Nat.lt_or_ge m k' with h9 | h9
                        · exact h9
                        · have : m = k' := by omega
                          subst this
                          exact absurd h5 hom) h6)
                      simp only [pairOk, Bool.and_eq_true] at hp
                      rcases h8 with h8 | ⟨h8, _⟩
                      · exact (wrOk_spec hp.1 h8).1 hwm
                      · have := c.size_le (i := i) (j := k') (by omega) (by omega)
                        omega
                · exact ⟨es', by rw [c.get_succ (by omega) hbm htm]; exact h3, h4⟩
          exact step _ hlt (Nat.le_refl _)
        · exact ⟨es, j.agree_le c his hahead hes hL₁ hle, .inl rfl⟩
      obtain ⟨es', hes', hLE⟩ := hchain
      obtain ⟨r', hf', hv'⟩ := look_eq hkey hLE hfind
      let Hh : H := { T.S (κ t.b) with size := (T.S ops.size).size, mark := (T.S ops.size).size, wr := [] }
      have hHg : ∀ b, Hh.get b = (T.S (κ t.b)).get b := fun b => rfl
      have hHs : Hh.size = (T.S ops.size).size := rfl
      have hEr : simpleOp C (maskE (sees ops oi) (T.E i)) Hh (.look q z m kx false) = .ok (T.V i) Hh := by
        rw [look_back (b := t.b) (es := es') (r := r') hmx (by rw [hkx]; exact hkey) (by rw [hHg]; exact hes') (by rw [hkx]; exact hf'), hv', ← hval]
      have I : Inv P (· = t.b) ρ Hh w := {
        dom := fun {b blk} hb => by
          rw [hHg] at hb
          exact Nat.lt_of_lt_of_le (c.dom _ (j.kap_le _) hb) (by rw [hHs]; exact c.size_le (j.kap_le _) (Nat.le_refl _))
        fresh := fun {b v} hb => by
          cases h : ρ.L b v with
          | none => rfl
          | some r => have := j.lowNames c h; rw [hHs] at hb; omega
        inj := j.inj
        lt := j.lt
        slt := j.slt
        mark := Nat.le_refl _
        stab := fun {b blk r o} hb hg hL hS => by
          subst hb
          exact (j.cont hg hL).2 o hS
        vers := fun {b blk v r} hb hg hL => by
          subst hb
          exact j.vers hg hL
        blk := fun {b blk r} hb hg hL => by
          subst hb
          exact BRel.keeps keeps_below rfl (j.cont hg hL).1 }
      have hout := sim_simple c.hC I (he.keep keeps_below) (hg.keep keeps_below) hck rfl (by simp only [foot, hmx, Foot]; simp)
      rw [hEr] at hout
      refine hout.next fun v' w' ρ₁ hv I' p => ⟨ρ.below (T.S i).size, ?_⟩
      exact {
        rel := by
          rw [hres] at hv ⊢
          cases hv
          exact .int _ _
        keeps := p.keeps.names (fun h => h) (fun h => h) (fun h => h)
        grows := p.grows
        fresh := fun {b v} hb => by
          cases h : (ρ.below (T.S i).size).L b v with
          | none => rfl
          | some r => have := (below_some.1 h).1; rw [hSi] at hb; omega
        inj := fun h1 h2 => j.inj (below_some.1 h1).2 (below_some.1 h2).2
        lt := fun h1 => Nat.lt_of_lt_of_le (j.lt (below_some.1 h1).2) p.grows
        slt := fun h1 => Nat.lt_of_lt_of_le (j.slt h1) p.grows
        cont := fun ht => absurd ht (hnt _)
        vers := fun ht => absurd ht (hnt _)
        newL := fun h1 h2 => by rw [h1] at h2; cases h2
        newS := fun h => .inl h
        rest := fun {r} h1 h2 => p.rest h1 (fun b v hb => ⟨j.lowNames c hb, by simp [Hh]⟩)
        world := p.world }
    · have I := j.inv c his (X := (· = t.b)) (fun b blk v r hx h1 h2 => absurd ⟨v, r, hx ▸ h2⟩ hnm)
      have hout := sim_simple c.hC I he hg hck rfl (by simp only [foot, hmx, Foot]; simp)
      rw [show simpleOp C (maskE (sees ops oi) (T.E i)) (T.S i) (.look q z m kx false) = .ok (T.V i) (T.S i) from hrun'] at hout
      exact hout.next fun v w' ρ' hv I' p => ⟨ρ', OpDone.of c his hv I' p hs hwr (fun b hb => by rw [hDwr] at hb; cases hb)⟩

theorem J.skip (_c : Cx P C call n ops T) (j : J P C n ops T ρ₀ h₀ hout w₀ a₀ listed ρ κ μ a w) (_his : i < ops.size) (hV : T.V i = .tup []) (hs : T.S (i + 1) = T.S i) (hD : (T.D i).wr = []) : OpDone P T i ρ w undef w (ρ.below (T.S i).size) := by
  have hnt : ∀ b, ¬ T.touch i b := by
    rintro b (h1 | ⟨h1, h2⟩)
    · rw [hD] at h1; cases h1
    · rw [hs] at h2; omega
  exact {
    rel := by rw [hV]; exact undef_rel _ _
    keeps := Keeps.refl _ _
    grows := Nat.le_refl _
    fresh := fun {b v} hb => by
      cases h : (ρ.below (T.S i).size).L b v with
      | none => rfl
      | some r => have := (below_some.1 h).1; rw [hs] at hb; omega
    inj := fun h1 h2 => j.inj (below_some.1 h1).2 (below_some.1 h2).2
    lt := fun h1 => j.lt (below_some.1 h1).2
    slt := fun h1 => j.slt h1
    cont := fun ht => absurd ht (hnt _)
    vers := fun ht => absurd ht (hnt _)
    newL := fun h1 h2 => by rw [h1] at h2; cases h2
    newS := fun h => .inl h
    rest := fun _ _ => rfl
    world := ⟨rfl, rfl, rfl⟩ }

/-! ### All of them -/
theorem J.next (c : Cx P C call n ops T) (hout1 : hout.size = (T.S ops.size).size) (hout2 : ∀ k b, k < ops.size → b ∈ (T.D k).wr → b < h₀.mark → b ∈ hout.wr) (h0s : (T.S 0).size = h₀.size) (hg0 : Globs ρ₀ w₀ C) {r : Option Nat} {Q : Exit → Act → World → Prop}
    (j : J P C n ops T ρ₀ h₀ hout w₀ a₀ listed ρ κ μ a w) (hr : i ∈ Region.ready .any ops listed) :
    wpOpIn (fence r) 0 P ops Q i (fun a' w' => ∃ ρ'' κ' μ', J P C n ops T ρ₀ h₀ hout w₀ a₀ (listed.setIfInBounds i true) ρ'' κ' μ' a' w') a w := by
  obtain ⟨hni, o, ho, hall⟩ := ready_spec hr
  have his : i < ops.size := (Array.getElem?_eq_some_iff.1 ho).1
  have he := j.erel c hr ho
  have hw : ∀ t, wanted (T.E i) (compOper P n ops o).guard = some t → Region.wanted o (yielded ops a.tmps) = t := fun t ht =>
    wanted_rel c.hn j.tsize he (c.dst_lt ho) (by rw [mask_guard c.hn]; exact ht)
  unfold wpOpIn
  simp only [ho]
  rcases c.stepAt ho with ⟨h1, h2, h3, h4, _⟩ | ⟨h1, _, h', h2, h4, h5⟩
  · simp only [hw false h1, Bool.false_eq_true, if_false]
    exact ⟨fun _ _ => trivial, j.join c hout1 hout2 h0s hr ho (j.skip c his h2 h4 (by rw [h3]))⟩
  · simp only [hw true h1, if_true]
    have hother : (compOper P n ops o).op ≠ .other := fun e => by rw [e] at h2; cases h2
    obtain ⟨_, hck⟩ := compOper_op hother
    refine wpIn_of_next (no_defer hck) ((j.run c (fun h => j.lowNames c h) hg0 hr ho h2 h4 h5).mono (fun v' w' hd => ?_) (fun _ _ h => h.elim))
    obtain ⟨ρ', d⟩ := hd
    exact j.join c hout1 hout2 h0s hr ho d

theorem filter_lt {l : List Nat} {p q : Nat → Bool} (h : ∀ x, q x = true → p x = true) {y : Nat} (hy : y ∈ l) (hp : p y = true) (hq : q y = false) : (l.filter q).length < (l.filter p).length := by
  induction l with
  | nil => cases hy
  | cons x l ih =>
    have hle : (l.filter q).length ≤ (l.filter p).length := by
      clear ih hy
      induction l with
      | nil => simp
      | cons z l ih2 =>
        simp only [List.filter_cons]
        have := h z
        cases hz : q z with
        | true => rw [this hz]; simpa using ih2
        | false => cases p z <;> simp <;> omega
    simp only [List.filter_cons]
    rcases List.mem_cons.1 hy with rfl | hy
    · rw [hp, hq]; simp; omega
    · have := ih hy
      have h2 := h x
      cases hz : q x with
      | true => rw [h2 hz]; simpa using this
      | false => cases p x <;> simp <;> omega

def left (ops : Array Oper) (listed : Array Bool) : Nat := ((List.range ops.size).filter fun k => !listed.getD k false).length

theorem all_of_stuck (ord : Order ops) (hl : listed.size = ops.size) (h : Region.ready .any ops listed = []) : ∀ k, k < ops.size → On listed k := by
  intro k
  induction k using Nat.strongRecOn with
  | ind k ih =>
    intro hk
    by_cases hon : On listed k
    · exact hon
    · have hk' : ops[k]? = some ops[k] := Array.getElem?_eq_getElem hk
      have : k ∈ Region.ready .any ops listed := by
        rw [mem_ready]
        refine ⟨?_, ops[k], hk', fun e he hb => ih e.on (ord.lt hk' e he hb) (by have := ord.lt hk' e he hb; omega)⟩
        unfold On at hon
        simp [Array.getD_eq_getD_getElem?, hl, hk] at hon ⊢
        exact hon
      rw [h] at this
      cases this

theorem J.all (c : Cx P C call n ops T) (hout1 : hout.size = (T.S ops.size).size) (hout2 : ∀ k b, k < ops.size → b ∈ (T.D k).wr → b < h₀.mark → b ∈ hout.wr) (h0s : (T.S 0).size = h₀.size) (hg0 : Globs ρ₀ w₀ C) {r : Option Nat} {Q : Exit → Act → World → Prop}
    (hQ : ∀ listed ρ κ μ a w, J P C n ops T ρ₀ h₀ hout w₀ a₀ listed ρ κ μ a w → (∀ k, k < ops.size → On listed k) → Q .normal a w) :
    ∀ (fuel : Nat) (listed : Array Bool) (ρ : Rn) (κ μ : Nat → Nat) (a : Act) (w : World), J P C n ops T ρ₀ h₀ hout w₀ a₀ listed ρ κ μ a w → left ops listed ≤ fuel → wpAnyIn (fence r) 0 P .any ops Q fuel listed a w := by
  intro fuel
  induction fuel with
  | zero =>
    intro listed ρ κ μ a w j hle
    have hall : ∀ k, k < ops.size → On listed k := by
      intro k hk
      by_cases hon : On listed k
      · exact hon
      · have : k ∈ (List.range ops.size).filter fun k => !listed.getD k false := by
          rw [List.mem_filter]
          exact ⟨by simpa using hk, by unfold On at hon; simpa using hon⟩
        have hnil : ((List.range ops.size).filter fun k => !listed.getD k false) = [] := List.eq_nil_of_length_eq_zero (Nat.le_zero.1 hle)
        rw [hnil] at this
        cases this
    refine ⟨?_, hQ listed ρ κ μ a w j hall⟩
    rw [List.eq_nil_iff_forall_not_mem]
    intro i hi
    obtain ⟨h1, o, ho, _⟩ := ready_spec hi
    exact h1 (hall i (Array.getElem?_eq_some_iff.1 ho).1)
  | succ fuel ih =>
    intro listed ρ κ μ a w j hle
    refine ⟨fun h => hQ listed ρ κ μ a w j (all_of_stuck c.ord j.lsize h), fun i hi => ?_⟩
    refine wpOpIn_mono (fun a' w' hj => ?_) (j.next c hout1 hout2 h0s hg0 hi)
    obtain ⟨ρ'', κ', μ', j'⟩ := hj
    refine ih _ ρ'' κ' μ' a' w' j' ?_
    obtain ⟨h1, o, ho, _⟩ := ready_spec hi
    have his : i < ops.size := (Array.getElem?_eq_some_iff.1 ho).1
    have hlt : left ops (listed.setIfInBounds i true) < left ops listed := by
      refine filter_lt (y := i) (fun x hx => ?_) (by simpa using his) ?_ ?_
      · by_cases e : i = x
        · subst e; unfold On at h1; simpa using h1
        · rw [getD_set_ne _ e] at hx; exact hx
      · unfold On at h1; simpa using h1
      · have := (on_set (listed := listed) (k := i) (by rw [j.lsize]; exact his)).2 (.inl rfl)
        unfold On at this
        simpa using this
    omega

end

/-- A region that draws its order is as E has it. -/
theorem draw_sim (hC : CtxOk P C) (hcall : CallSim P C call) (hstep : CallStep call) (hm : P.follows .mixedOrders = true) {n : Nat} (hn : n ≤ 511) {wb : World} : DrawSim P C call n wb := by
  intro r id ops a env h w ρ ms fuel s hB hok hf
  simp only [runCode] at hf ⊢
  cases hres : runDraw C call (ops.toList.map (compOper P n ops)) env h [] with
  | fail => rw [hres] at hf; exact absurd rfl hf
  | pan v h' =>
    exfalso
    have nopan : ∀ (l : List EOper) (env : Env) (h : H) (acc : List Did), runDraw C call l env h acc ≠ .pan v h' := by
      intro l
      induction l with
      | nil => intro env h acc e; cases e
      | cons o l ih =>
        intro env h acc e
        simp only [runDraw] at e
        split at e
        · split at e
          · exact ih _ _ _ e
          · cases e
        · exact ih _ _ _ e
        · cases e
    exact nopan _ _ _ _ hres
  | ok x hout =>
    obtain ⟨env', out⟩ := x
    rw [hres] at hf
    simp only [R.bind, Bool.cond_eq_ite] at hf ⊢
    by_cases hd : drawOk out (unordOf ops) = true
    · rw [if_pos hd]
      obtain ⟨T, h1, h2, h3, h4, h5, h6, h7, h8⟩ := runDraw_trace _ _ _ _ _ _ _ hres
      simp only [List.length_map, Array.length_toList, List.reverse_nil, List.nil_append] at h3 h4 h6 h7
      have c : Cx P C call n ops T := {
        hC := hC
        sim := hcall
        step := hstep
        hn := hn
        ord := order_of_lex hB
        oks := hok
        ok := h8
        pairs := fun i j hij => by
          have := List.all_eq_true.1 hd (i, j) hij
          have hj : j < ops.size ∧ i < j := by
            unfold unordOf at hij
            simp only [List.mem_flatMap, List.mem_range, List.mem_map, List.mem_filter, Prod.mk.injEq] at hij
            obtain ⟨j', hj', i', ⟨hi', _⟩, rfl, rfl⟩ := hij
            exact ⟨hj', hi'⟩
          simp only [h7, List.getElem?_map, List.getElem?_range hj.1, List.getElem?_range (show i < ops.size by omega), Option.map_some] at this
          exact this
        dom0 := fun hb => by rw [h2] at hb ⊢; exact s.inv.dom hb
        norm0 := by rw [h2]; exact ⟨rfl, rfl⟩ }
      have hsize : hout.size = (T.S ops.size).size := by rw [h4]; rfl
      have hmem : ∀ b, hout.get b = (T.S ops.size).get b := fun b => by rw [h4]; rfl
      have h0s : (T.S 0).size = h.size := by rw [h2]; rfl
      have hstp : HStep h hout := by
        have := runDraw_step (C := C) hstep (ops.toList.map (compOper P n ops)) env h []
        rw [hres] at this
        exact this
      refine wpIn_region_any hm (J.all (T := T) (ρ₀ := ρ) (h₀ := h) (hout := hout) (w₀ := w) (a₀ := a) c hsize (fun k b hk hb hlt => (h6 b).2 (.inr ⟨hlt, k, hk, hb⟩)) h0s s.glob ?_ ops.size (Array.replicate ops.size false) ρ (fun _ => 0) (fun _ => 0) a { w with drawn := w.drawn + 1 } ?_ ?_)
      · -- all done
        intro listed ρ' κ μ a' w' j hall
        have hcont : ∀ {b : Nat} {blk : Blk}, hout.get b = some blk → ∀ {v r : Nat}, ρ'.L b v = some r → (T.S (κ b)).get b = some blk := by
          intro b blk hb v r hL
          rw [hmem] at hb
          have hbl := c.dom ops.size (Nat.le_refl _) hb
          have hnt : ∀ k, κ b ≤ k → k < ops.size → ¬ T.touch k b := fun k h9 h10 => j.kapLast b k (hall k h10) h10 h9
          rw [← c.get_many (j.kap_le b) (Nat.le_refl _) (c.small (j.kap_le b) (Nat.le_refl _) hbl hnt) hnt]
          exact hb
        have hlow : ∀ {b v r : Nat}, ρ'.L b v = some r → b < hout.size := fun hL => by rw [hsize]; exact j.lowNames c hL
        have p : Post ρ h w ρ' hout w' := {
          keeps := j.keeps
          grows := j.grows
          size := hstp.size
          mark := h5
          told := hstp.told
          newL := j.newL
          newS := j.newS
          rest := j.rest
          same := fun hb hnb => hstp.same s.inv.mark hb hnb
          world := j.world }
        have I : Inv P All ρ' hout w' := {
          dom := fun hb => by rw [hmem] at hb; rw [hsize]; exact c.dom ops.size (Nat.le_refl _) hb
          fresh := fun {b v} hb => by
            cases hq : ρ'.L b v with
            | none => rfl
            | some r => have := hlow hq; omega
          inj := j.inj
          lt := j.lt
          slt := j.slt
          mark := by rw [h5]; exact Nat.le_trans s.inv.mark hstp.size
          stab := fun {b blk r o} _ hg hL hS => (j.cont (hcont hg hL) hL).2 o hS
          vers := fun {b blk v r} _ hg hL => j.vers (hcont hg hL) hL
          blk := fun {b blk r} _ hg hL => BRel.keeps keeps_below rfl (j.cont (hcont hg hL) hL).1 }
        refine ⟨rfl, ρ', ms, ⟨I, s.glob.keep j.keeps, j.tsize, ⟨by rw [j.tsize]; omega, fun t ht => ?_⟩, s.marks.keep p j.defs⟩, p⟩
        have hmu : μ t ≤ ops.size := by
          rcases j.mu t with h9 | ⟨k, o, _, h9, h10, _⟩
          · omega
          · have := (Array.getElem?_eq_some_iff.1 h9).1; omega
        rw [← h3, c.env_many hmu (Nat.le_refl _) ht (fun k o h9 h10 h11 => j.muLast t k o (hall k h10) h11 h9)]
        exact (j.env t ht).keep keeps_below
      · -- at the start
        have hL0 : ∀ {b v r : Nat}, ρ.L b v = some r → b < h.size := fun {b v r} hL => by
          rcases Nat.lt_or_ge b h.size with h9 | h9
          · exact h9
          · rw [s.inv.fresh h9] at hL; cases hL
        have hnone : ∀ k, ¬ On (Array.replicate ops.size false) k := fun k hk => by
          unfold On at hk
          simp only [Array.getD_eq_getD_getElem?, Array.getElem?_replicate] at hk
          split at hk <;> simp at hk
        have Kd : Keeps ρ w ρ { w with drawn := w.drawn + 1 } := VRel.heap rfl
        have Kb : Keeps ρ { w with drawn := w.drawn + 1 } (ρ.below (T.S 0).size) { w with drawn := w.drawn + 1 } := (Keeps.refl ρ _).names (fun hL => below_some.2 ⟨by rw [h0s]; exact hL0 hL, hL⟩) (fun h => h) (fun h => h)
        have hg0 : ∀ b, (T.S 0).get b = h.get b := fun b => by rw [h2]; rfl
        exact {
          lsize := by simp
          down := fun j o _ hj => absurd hj (hnone _)
          tsize := s.size
          defs := rfl
          names := fun hL => .inl (by rw [h0s]; exact hL0 hL)
          inj := s.inv.inj
          lt := s.inv.lt
          slt := s.inv.slt
          cont := fun {b blk r} hg hL => by
            rw [hg0] at hg
            exact ⟨BRel.keeps (Kd.trans Kb) rfl (s.inv.blk trivial hg hL), fun o hS => s.inv.stab trivial hg hL hS⟩
          vers := fun {b blk v r} hg hL => by
            rw [hg0] at hg
            exact s.inv.vers trivial hg hL
          kap := fun _ => .inl rfl
          kapLast := fun _ k hk => absurd hk (hnone k)
          env := fun t ht => by rw [h1]; exact (s.env.2 t ht).keep (Kd.trans Kb)
          mu := fun _ => .inl rfl
          muLast := fun _ k _ hk => absurd hk (hnone k)
          keeps := Kd
          old := fun hL => by rw [h0s]; exact hL0 hL
          grows := Nat.le_refl _
          newL := fun h9 h10 => by rw [h9] at h10; cases h10
          newS := fun h => .inl h
          rest := fun _ _ => rfl
          world := ⟨rfl, rfl, rfl⟩ }
      · unfold left
        exact Nat.le_trans (List.length_filter_le _ _) (by simp)
    · rw [if_neg hd] at hf
      exact absurd rfl hf

end Go.E
