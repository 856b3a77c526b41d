/- Regions, branches and loops of the plain machine, held against the model's. -/
import Derived.Test.YtmhhajebgolmlaaGreatDoorOpsD
import Derived.RangeFuncRecord
import Derived.LoopNIn
import Derived.OrdersIn
import Derived.TacticsIn
set_option linter.unusedSimpArgs false
set_option linter.unusedVariables false
namespace Go.E
variable {P : Program}

/-! ### The walk, without a fence -/
def fence (r : Option Nat) : Fence := { Fence.wide with round := r }

/-- What is asked of an operation or a call: it yields a value, or a panic. -/
def NextRun (P : Program) (r : Result Next) (K Kp : Value → World → Prop) : Prop :=
  match r with
  | .ok (.value v) w' => K v w'
  | .ok .skip w' => K undef w'
  | .ok (.enter f args) w' => CallsIn Fence.wide 0 P f args w' fun
      | .returned v, w'' => K v w''
      | .panicked chain, w'' => ∃ v, chain = [{ v, recovered := false }] ∧ Kp v w''
      | .outgrown, _ => False
  | .ok (.round l f tmps assign body) w' => RoundIn Fence.wide 0 P l f tmps assign body w' fun
      | .returned v, w'' => K v w''
      | .panicked chain, w'' => ∃ v, chain = [{ v, recovered := false }] ∧ Kp v w''
      | .outgrown, _ => False
  | .halt (.panic v) w' => Kp v w'
  | _ => False

theorem NextRun.mono {r : Result Next} {K K' Kp Kp' : Value → World → Prop} (h : NextRun P r K Kp) (hk : ∀ v w, K v w → K' v w) (hp : ∀ v w, Kp v w → Kp' v w) : NextRun P r K' Kp' := by
  unfold NextRun at h ⊢
  split at h
  · exact hk _ _ h
  · exact hk _ _ h
  · exact h.mono fun e w' he => by
      cases e with
      | returned v => exact hk _ _ he
      | panicked chain => obtain ⟨v, e1, e2⟩ := he; exact ⟨v, e1, hp _ _ e2⟩
      | outgrown => exact he.elim
  · exact h.mono fun e w' he => by
      cases e with
      | returned v => exact hk _ _ he
      | panicked chain => obtain ⟨v, e1, e2⟩ := he; exact ⟨v, e1, hp _ _ e2⟩
      | outgrown => exact he.elim
  · exact hp _ _ h
  · exact h.elim

theorem calls_fence {r : Option Nat} {f : FuncId} {args : Array Value} {w : World} {R : Ending → World → Prop} (h : CallsIn Fence.wide 0 P f args w R) : CallsIn (fence r) 0 P f args w R := h
theorem round_fence {r : Option Nat} {l f : Nat} {tmps : Array Value} {assign body : Code} {w : World} {R : Ending → World → Prop} (h : RoundIn Fence.wide 0 P l f tmps assign body w R) : RoundIn (fence r) 0 P l f tmps assign body w R := h

/-- an operation's wp, from what it comes to -/
theorem wpIn_of_next {r : Option Nat} {o : Oper} {a : Act} {w : World} {K : Act → World → Prop} {Q : Exit → Act → World → Prop} (hd : ∀ c, o.op ≠ .defer c)
    (h : NextRun P ((execOp a.eval o).run P w) (fun v w' => K (a.put o.dst v) w') (fun v w' => Q (.panic [{ v, recovered := false }]) a w')) : o.wpIn (fence r) 0 P a w K Q := by
  refine ⟨fun _ _ => trivial, ?_⟩
  rw [Oper.semAt_eq _ _ _ hd]
  unfold NextRun at h
  split at h
  all_goals first | (rename_i hr; rw [hr]) | skip
  · exact h
  · exact h
  · refine ⟨(fun h => by cases h), calls_fence (h.mono fun e w' he => ?_)⟩
    cases e with
    | returned v => exact he
    | panicked chain => obtain ⟨v, rfl, e2⟩ := he; exact e2
    | outgrown => exact he.elim
  · refine ⟨(fun h => by cases h), round_fence (h.mono fun e w' he => ?_)⟩
    cases e with
    | returned v => exact he
    | panicked chain => obtain ⟨v, rfl, e2⟩ := he; exact e2
    | outgrown => exact he.elim
  · exact h
  · exact h.elim

/-! ### What is known on the way -/
abbrev All : Nat → Prop := fun _ => True
theorem Inv.all {X : Nat → Prop} {ρ : Rn} {h : H} {w : World} (I : Inv P X ρ h w) (hX : ∀ b, X b) : Inv P All ρ h w := I.more fun b _ => .inl (hX b)

/-- the value that came, and the memories behind it -/
def Good (P : Program) (ρ : Rn) (h : H) (w : World) (t : V) (h' : H) : Value → World → Prop := fun v w' => ∃ ρ', VRel ρ' w' v t ∧ Inv P All ρ' h' w' ∧ Post ρ h w ρ' h' w'

def CallOut (P : Program) (ρ : Rn) (h : H) (w : World) (r : Result Next) : R V → Prop
  | .ok t h' => NextRun P r (Good P ρ h w t h') (fun _ _ => False)
  | .pan t h' => NextRun P r (fun _ _ => False) (Good P ρ h w t h')
  | .fail => True

theorem OpRun.out {X : Nat → Prop} {ρ : Rn} {h : H} {w : World} {r : Result Next} {res : R V} (hX : ∀ b, X b) (ho : OpRun P X ρ h w r res) : CallOut P ρ h w r res := by
  cases res with
  | ok t h' =>
    obtain ⟨v, w', ρ', e, hv, I, p⟩ := ho
    rcases e with rfl | ⟨rfl, rfl⟩
    · exact ⟨ρ', hv, I.all fun b => .inl (hX b), p⟩
    · exact ⟨ρ', hv, I.all fun b => .inl (hX b), p⟩
  | pan t h' =>
    obtain ⟨v, w', ρ', rfl, hv, I, p⟩ := ho
    exact ⟨ρ', hv, I.all fun b => .inl (hX b), p⟩
  | fail => trivial

/-- the calls are as E has them -/
def CallSim (P : Program) (C : Ctx) (call : E.Call) : Prop :=
  ∀ {ρ : Rn} {h : H} {w : World} {g : Value} {tg : V} {args : Array Value} {targs : List V}, Inv P All ρ h w → Globs ρ w C → VRel ρ w g tg → VsRel ρ w args.toList targs →
    CallOut P ρ h w ((do let d ← Deferred.ofValue g args; invoke d.target d.args : Sem Next).run P w) (call tg targs h)

/-- what C says of the program -/
structure CtxOk (P : Program) (C : Ctx) : Prop where
  lies : ∀ e n off t, C.lies e n off t = true → liesAt P P.depth e (n / P.cellsOf e) off t 1 = true
  meth : ∀ t m f, C.meth t m = some f → ∀ (v : Value) (w : World), (Go.method (P.types.size + Made.depth) t v m).run P w = .ok (f, v) w

section ops
variable {C : Ctx} {call : E.Call}

theorem args_map {a : Act} (l : Array Operand) : (l.map a.eval).toList = l.toList.map a.eval := by simp

/-- every operation -/
theorem sim_op (hC : CtxOk P C) (hcall : CallSim P C call) {ρ : Rn} {h : H} {w : World} {a : Act} {env : Env} (I : Inv P All ρ h w) (he : ERel ρ w a.tmps env) (hg : Globs ρ w C) {o : Oper} {eop : EOp} (hck : compOpK P o = some eop) :
    CallOut P ρ h w ((execOp a.eval o).run P w) (runOp C call env h eop) := by
  obtain ⟨hc, hkind⟩ := Option.filter_eq_some_iff.1 hck
  have hkind : eop.isCall = callsCode o.op := by simpa using hkind
  have hsimple : eop.isCall = false → runOp C call env h eop = simpleOp C env h eop := by
    intro hh
    cases eop <;> first | rfl | cases hh
  by_cases hcl : ∃ c, o.op = .call c
  · obtain ⟨c, hop⟩ := hcl
    have hargs : VsRel ρ w (c.args.map a.eval).toList ((c.args.toList.map opd).map (·.get C env)) := by
      rw [args_map]; exact opds_rel he hg c.args.toList
    cases hcal : c.callee with
    | builtin b =>
      have hsim := sim_builtin I he hg hop hcal hc (by unfold Foot; split <;> intros <;> trivial)
      have := hsimple (by rw [hkind, hop]; simp [callsCode, hcal])
      rw [this]
      exact hsim.out fun _ => trivial
    | value x =>
      have hrun : execOp a.eval o = (do let d ← Deferred.ofValue (a.eval x) (c.args.map a.eval); invoke d.target d.args : Sem Next) := by
        unfold execOp
        rw [hop]
        simp only [Go.resolve, hcal]
      rw [hrun]
      simp only [compOp, hop, compCall, hcal] at hc
      cases x with
      | func f =>
        cases hc
        exact hcall I hg (.func (.func f) .nil .nil) hargs
      | tmp t => cases hc; exact hcall I hg (opd_rel he hg (.tmp t)) hargs
      | const v => cases hc; exact hcall I hg (opd_rel he hg (.const v)) hargs
      | global g => cases hc; exact hcall I hg (opd_rel he hg (.global g)) hargs
    | invoke r m =>
      simp only [compOp, hop, compCall, hcal, Option.some.injEq] at hc
      subst hc
      simp only [runOp]
      have hr := opd_rel he hg r
      generalize hge : (opd r).get C env = tr at hr
      generalize hgv : a.eval r = vr at hr
      cases hr <;> try trivial
      rename_i t v tv hv
      simp only
      cases hm : C.meth t m with
      | none => trivial
      | some f =>
        simp only
        have hrun : (execOp a.eval o).run P w = (do let d ← Deferred.ofValue (.func (.func f) #[] #[]) (#[v] ++ c.args.map a.eval); invoke d.target d.args : Sem Next).run P w := by
          unfold execOp
          rw [hop]
          have h0 : (#[Value.iface t v] ++ c.args.map a.eval)[0]? = some (.iface t v) := by rw [Array.getElem?_append]; rfl
          have hx : (c.args.map a.eval).extract 0 c.args.size = c.args.map a.eval := by
            apply Array.ext'
            simp only [Array.toList_extract, Array.toList_map]
            simp [List.extract, List.take_of_length_le]
          simp only [Go.resolve, hcal, invoke, hgv, Deferred.ofValue, Sem.run_bind, Sem.run_pure, Result.andThen_ok, h0, callMethod, run_program, hC.meth t m f hm]
          simp [hx]
        rw [hrun]
        refine hcall I hg (.func (.func f) .nil .nil) ?_
        rw [Array.toList_append]
        exact .cons hv hargs
  · have hsim := sim_other I he hg hC.lies hc (by unfold Foot; split <;> intros <;> trivial) (fun c e => hcl ⟨c, e⟩)
    have := hsimple (by rw [hkind]; unfold callsCode; split <;> first | rfl | (rename_i c hop; exact absurd ⟨c, hop⟩ hcl))
    rw [this]
    exact hsim.out fun _ => trivial

end ops
end Go.E

namespace Go.E
variable {P : Program} {C : Ctx} {call : E.Call}

/-! ### Regions in text order -/
def mark' (r : Nat) : Deferred := { target := .collected r, args := #[] }

/-- the marks among the deferred calls -/
structure Mks (wb : World) (ρ : Rn) (w : World) (a : Act) (ms : List Nat) : Prop where
  eq : a.defers = ms.map mark'
  nodup : ms.Nodup
  all : ∀ r ∈ ms, wb.heap.size ≤ r ∧ w.heap[r]? = some (.deferred (some [])) ∧ ∀ b v, ρ.L b v ≠ some r

theorem lt_of_some {α : Type} {a : Array α} {r : Nat} {x : α} (h : a[r]? = some x) : r < a.size := by
  rcases Nat.lt_or_ge r a.size with h' | h'
  · exact h'
  · simp [Array.getElem?_eq_none h'] at h

theorem Mks.keep {wb : World} {ρ ρ' : Rn} {h h' : H} {w w' : World} {a a' : Act} {ms : List Nat} (p : Post ρ h w ρ' h' w') (ha : a'.defers = a.defers) (m : Mks wb ρ w a ms) : Mks wb ρ' w' a' ms where
  eq := ha.trans m.eq
  nodup := m.nodup
  all := fun r hr => by
    obtain ⟨h1, h2, h3⟩ := m.all r hr
    have hlt := lt_of_some h2
    refine ⟨h1, (p.rest hlt (fun b v hv => absurd hv (h3 b v))).trans h2, fun b v hv => ?_⟩
    cases h4 : ρ.L b v with
    | some r' =>
      have := p.keeps.L h4
      rw [hv] at this
      cases this
      exact h3 b v h4
    | none =>
      rcases p.newL hv h4 with ⟨_, _, c⟩ | ⟨_, v₀, r₀, h5, h6⟩
      · omega
      · rcases h6 with h6 | h6
        · omega
        · exact h3 b v₀ (h6 ▸ h5)

/-- how things stand within an activation -/
structure St (P : Program) (C : Ctx) (n : Nat) (wb : World) (ρ : Rn) (h : H) (w : World) (a : Act) (env : Env) (ms : List Nat) : Prop where
  inv : Inv P All ρ h w
  glob : Globs ρ w C
  size : a.tmps.size = n
  env : ERel ρ w a.tmps env
  marks : Mks wb ρ w a ms

def exitOf : Ex → Exit
  | .normal => .normal
  | .exit i => .exit i
  | .ret => .ret

def CodeOut (P : Program) (C : Ctx) (n : Nat) (wb : World) (ρ : Rn) (h : H) (w : World) : R (Ex × Env) → Exit → Act → World → Prop
  | .ok (ex, env') h', e, a', w' => e = exitOf ex ∧ ∃ ρ' ms', St P C n wb ρ' h' w' a' env' ms' ∧ Post ρ h w ρ' h' w'
  | .pan t h', e, a', w' => ∃ v, e = .panic [{ v, recovered := false }] ∧ ∃ ρ' ms', VRel ρ' w' v t ∧ Inv P All ρ' h' w' ∧ Mks wb ρ' w' a' ms' ∧ Post ρ h w ρ' h' w'
  | .fail, _, _, _ => False

theorem CodeOut.pre {n : Nat} {wb : World} {ρ₀ ρ : Rn} {h₀ h : H} {w₀ w : World} {res : R (Ex × Env)} {e : Exit} {a' : Act} {w' : World} (p : Post ρ₀ h₀ w₀ ρ h w) (o : CodeOut P C n wb ρ h w res e a' w') : CodeOut P C n wb ρ₀ h₀ w₀ res e a' w' := by
  cases res with
  | ok x h' => obtain ⟨e1, ρ', ms', s, q⟩ := o; exact ⟨e1, ρ', ms', s, p.trans q⟩
  | pan t h' => obtain ⟨v, e1, ρ', ms', hv, I, m, q⟩ := o; exact ⟨v, e1, ρ', ms', hv, I, m, p.trans q⟩
  | fail => exact o

theorem wanted_rel {ρ : Rn} {w : World} {n : Nat} {a : Act} {env : Env} (hn : n ≤ 511) (hs : a.tmps.size = n) (he : ERel ρ w a.tmps env) {ops : Array Oper} {o : Oper} (hd : o.dst.all (· < n) = true) {t : Bool} (h : wanted env (compOper P n ops o).guard = some t) :
    Region.wanted o (yielded ops a.tmps) = t := by
  simp only [compOper, hd, if_true] at h
  unfold Region.wanted
  cases hg : o.guard with
  | none => rw [hg] at h; simp only [Option.map_none, wanted, Option.some.injEq] at h; exact h
  | some p =>
    obtain ⟨j, want⟩ := p
    rw [hg] at h
    simp only [Option.map_some, wanted] at h
    simp only [yielded]
    cases hdj : (ops[j]?).bind (·.dst) with
    | none =>
      rw [hdj] at h
      have h1 := he.2 511 (by omega)
      rw [show a.tmps.getD 511 undef = undef by simp [Array.getD]; omega] at h1
      simp only [Option.filter_none, Option.getD_none] at h
      generalize env.get (ix 511) = tv at h h1
      cases h1 <;> simp at h
      subst h
      simp
    | some d =>
      rw [hdj] at h
      by_cases hdn : d < n
      · simp only [Option.filter_some, hdn, decide_true, if_true, Option.getD_some] at h
        have hdn' : (d : Nat) < n := hdn
        have h1 := he.2 d (Nat.lt_of_lt_of_le hdn' (by omega))
        have h2 : a.tmps[d]? = some (a.tmps.getD d undef) := by simp [Array.getD, hs, hdn]
        simp only [Option.bind_some, h2]
        generalize a.tmps.getD d undef = v at h1
        generalize env.get (ix d) = tv at h h1
        cases h1 <;> simp at h
        · subst h; simp
        · subst h; simp
      · have h1 := he.2 511 (by omega)
        rw [show a.tmps.getD 511 undef = undef by simp [Array.getD]; omega] at h1
        simp only [Option.filter_some, hdn, decide_false, Bool.false_eq_true, if_false, Option.getD_none] at h
        generalize env.get (ix 511) = tv at h h1
        have h2 : a.tmps[d]? = none := Array.getElem?_eq_none (by rw [hs]; exact Nat.le_of_not_lt hdn)
        cases h1 <;> simp at h
        subst h
        simp [h2]

theorem put_rel {ρ : Rn} {w : World} {n : Nat} {a : Act} {env : Env} (hs : a.tmps.size = n) (he : ERel ρ w a.tmps env) {o : Oper} (hd : o.dst.all (· < n) = true) {v : Value} {t : V} (hv : VRel ρ w v t) :
    (a.put o.dst v).tmps.size = n ∧ ERel ρ w (a.put o.dst v).tmps (put env (o.dst.map ix) t) ∧ (a.put o.dst v).defers = a.defers := by
  cases hdst : o.dst with
  | none => exact ⟨hs, he, rfl⟩
  | some d =>
    rw [hdst] at hd
    simp only [Option.all_some, decide_eq_true_eq] at hd
    exact ⟨by simp [Act.put, hs], he.put (by omega) hv, rfl⟩

theorem compOper_op {n : Nat} {ops : Array Oper} {o : Oper} (h : (compOper P n ops o).op ≠ .other) : o.dst.all (· < n) = true ∧ compOpK P o = some (compOper P n ops o).op := by
  simp only [compOper] at h ⊢
  split at h
  · rename_i hd
    refine ⟨hd, ?_⟩
    cases hc : compOpK P o with
    | none => rw [hc] at h; exact absurd rfl h
    | some e => simp [hd]
  · exact absurd rfl h

theorem no_defer {o : Oper} {e : EOp} (h : compOpK P o = some e) : ∀ c, o.op ≠ .defer c := by
  intro c hc
  obtain ⟨h1, _⟩ := Option.filter_eq_some_iff.1 h
  simp [compOp, hc] at h1

theorem sim_ops (hC : CtxOk P C) (hcall : CallSim P C call) {r : Option Nat} {n : Nat} (hn : n ≤ 511) {wb : World} {ops : Array Oper} : ∀ (l : List Oper) (a : Act) (env : Env) (h : H) (w : World) (ρ : Rn) (ms : List Nat) (ρ₀ : Rn) (h₀ : H) (w₀ : World), St P C n wb ρ h w a env ms → Post ρ₀ h₀ w₀ ρ h w →
    ((runOps C call (l.map (compOper P n ops)) env h).bind fun env h => .ok (Ex.normal, env) h) ≠ .fail →
    wpListIn (fence r) 0 P ops (CodeOut P C n wb ρ₀ h₀ w₀ ((runOps C call (l.map (compOper P n ops)) env h).bind fun env h => .ok (Ex.normal, env) h)) l a w
  | [], a, env, h, w, ρ, ms, ρ₀, h₀, w₀, s, p₀, _ => ⟨rfl, ρ, ms, s, p₀⟩
  | o :: l, a, env, h, w, ρ, ms, ρ₀, h₀, w₀, s, p₀, hf => by
    simp only [List.map_cons, runOps] at hf ⊢
    have hskip : ∀ {t : Bool}, o.dst.all (· < n) = true → wanted env (compOper P n ops o).guard = some t → Region.wanted o (yielded ops a.tmps) = t := fun hd hw => wanted_rel hn s.size s.env hd hw
    by_cases hd : o.dst.all (· < n) = true
    · cases hw : wanted env (compOper P n ops o).guard with
      | none => rw [hw] at hf; exact absurd rfl hf
      | some t =>
        have hwt := hskip hd hw
        rw [hw] at hf
        simp only [wpListIn]
        cases t with
        | false =>
          simp only [hwt, Bool.false_eq_true, if_false]
          refine ⟨fun _ _ => trivial, ?_⟩
          obtain ⟨p1, p2, p3⟩ := put_rel s.size s.env hd (undef_rel ρ w)
          exact sim_ops hC hcall hn l _ _ h w ρ ms ρ₀ h₀ w₀ ⟨s.inv, s.glob, p1, p2, s.marks.keep (Post.refl ρ h w) p3⟩ p₀ hf
        | true =>
          simp only [hwt, if_true]
          by_cases hop : (compOper P n ops o).op = .other
          · rw [hop] at hf; exact absurd rfl hf
          · obtain ⟨_, hck⟩ := compOper_op hop
            refine wpIn_of_next (no_defer hck) ?_
            have hout := sim_op hC hcall s.inv s.env s.glob hck
            cases hres : runOp C call env h (compOper P n ops o).op with
            | fail => rw [hres] at hf; exact absurd rfl hf
            | pan t h' =>
              rw [hres] at hout
              simp only [R.bind]
              refine hout.mono (fun _ _ h => h.elim) (fun v w' hg => ?_)
              obtain ⟨ρ', hv, I', p⟩ := hg
              exact ⟨v, rfl, ρ', ms, hv, I', s.marks.keep p rfl, p₀.trans p⟩
            | ok t h' =>
              rw [hres] at hout hf
              simp only [R.bind] at hf ⊢
              refine hout.mono (fun v w' hg => ?_) (fun _ _ h => h.elim)
              obtain ⟨ρ', hv, I', p⟩ := hg
              obtain ⟨p1, p2, p3⟩ := put_rel s.size (s.env.keep p.keeps) hd hv
              exact sim_ops hC hcall hn l _ _ h' w' ρ' ms ρ₀ h₀ w₀ ⟨I', s.glob.keep p.keeps, p1, p2, s.marks.keep p p3⟩ (p₀.trans p) hf
    · have hop : (compOper P n ops o).op = .other := by simp only [compOper]; rw [if_neg hd]
      have hg : (compOper P n ops o).guard = none := by simp only [compOper]; rw [if_neg hd]
      rw [hg, hop] at hf
      exact absurd rfl hf

end Go.E

namespace Go.E
variable {P : Program} {C : Ctx} {call : E.Call}

/-! ### Code -/
/-- a region that draws its order -/
def DrawSim (P : Program) (C : Ctx) (call : E.Call) (n : Nat) (wb : World) : Prop :=
  ∀ {r : Option Nat} {id : Nat} {ops : Array Oper} {a : Act} {env : Env} {h : H} {w : World} {ρ : Rn} {ms : List Nat} {fuel : Nat}, St P C n wb ρ h w a env ms → Region.lexB .any ops = true → opsOk P n ops = true →
    runCode C call fuel (.draw (ops.toList.map (compOper P n ops)) (unordOf ops)) env h ≠ .fail →
    (Code.region id ops true).wpIn (fence r) 0 P (CodeOut P C n wb ρ h w (runCode C call fuel (.draw (ops.toList.map (compOper P n ops)) (unordOf ops)) env h)) a w

/-- a range over a function -/
def RangeSim (P : Program) (C : Ctx) (call : E.Call) (n : Nat) (wb : World) : Prop :=
  ∀ {g : Operand} {ps : Array Tmp} {assign body : Code} {a : Act} {env : Env} {h : H} {w : World} {ρ : Rn} {ms : List Nat} {fuel : Nat}, St P C n wb ρ h w a env ms → wb.heap.size ≤ w.heap.size → ps.all (· < n) = true →
    runCode C call fuel (.rangeFunc (opd g) (ps.toList.map ix) (compCode P n true assign) (compCode P n true body)) env h ≠ .fail →
    (Code.rangeFunc g ps assign body).wpIn (fence none) 0 P (CodeOut P C n wb ρ h w (runCode C call fuel (.rangeFunc (opd g) (ps.toList.map ix) (compCode P n true assign) (compCode P n true body)) env h)) a w

theorem bind_ne {α β : Type} {x : R α} {f : α → H → R β} (h : x.bind f ≠ .fail) : x ≠ .fail := by
  intro e
  rw [e] at h
  exact h rfl

theorem sim_iter {r : Option Nat} {n : Nat} {wb : World} {c : Code} {body : Env → H → R (Ex × Env)}
    (hb : ∀ (a : Act) (env : Env) (h : H) (w : World) (ρ : Rn) (ms : List Nat), St P C n wb ρ h w a env ms → wb.heap.size ≤ w.heap.size → body env h ≠ .fail → c.wpIn (fence r) 0 P (CodeOut P C n wb ρ h w (body env h)) a w) :
    ∀ (m : Nat) (a : Act) (env : Env) (h : H) (w : World) (ρ : Rn) (ms : List Nat) (ρ₀ : Rn) (h₀ : H) (w₀ : World), St P C n wb ρ h w a env ms → wb.heap.size ≤ w.heap.size → Post ρ₀ h₀ w₀ ρ h w → iter body m env h ≠ .fail →
      Code.roundsIn (fence r) 0 P c (CodeOut P C n wb ρ₀ h₀ w₀ (iter body m env h)) m a w
  | 0, a, env, h, w, ρ, ms, ρ₀, h₀, w₀, s, hwb, p₀, hf => absurd rfl hf
  | m + 1, a, env, h, w, ρ, ms, ρ₀, h₀, w₀, s, hwb, p₀, hf => by
    simp only [iter] at hf ⊢
    simp only [Code.roundsIn]
    refine wpIn_mono (hb a env h w ρ ms s hwb (bind_ne hf)) fun e a' w' ho => ?_
    cases hres : body env h with
    | fail => rw [hres] at ho; exact ho.elim
    | pan t h' =>
      rw [hres] at ho
      have ho' := ho.pre p₀
      obtain ⟨v, rfl, _⟩ := ho
      exact ho'
    | ok x h' =>
      obtain ⟨ex, env'⟩ := x
      rw [hres] at ho hf
      have ho' := ho.pre p₀
      obtain ⟨rfl, ρ', ms', s', p'⟩ := ho
      cases ex with
      | normal =>
        simp only [R.bind] at hf ⊢
        exact sim_iter hb m a' env' h' w' ρ' ms' ρ₀ h₀ w₀ s' (Nat.le_trans hwb p'.grows) (p₀.trans p') hf
      | exit i => exact ho'
      | ret => exact ho'

theorem sim_code (hC : CtxOk P C) (hcall : CallSim P C call) {n : Nat} (hn : n ≤ 511) {wb : World} (hdraw : DrawSim P C call n wb) (hrange : RangeSim P C call n wb) {r : Option Nat} {rnd : Bool} (hr : rnd = false → r = none) {fuel : Nat} :
    ∀ (c : Code) (a : Act) (env : Env) (h : H) (w : World) (ρ : Rn) (ms : List Nat), St P C n wb ρ h w a env ms → wb.heap.size ≤ w.heap.size → runCode C call fuel (compCode P n rnd c) env h ≠ .fail →
      c.wpIn (fence r) 0 P (CodeOut P C n wb ρ h w (runCode C call fuel (compCode P n rnd c) env h)) a w
  | .skip, a, env, h, w, ρ, ms, s, hwb, hf => wpIn_skip ⟨rfl, ρ, ms, s, Post.refl ρ h w⟩
  | .region id ops false, a, env, h, w, ρ, ms, s, hwb, hf => by
    simp only [compCode, runCode] at hf ⊢
    exact wpIn_region_list (sim_ops hC hcall hn ops.toList a env h w ρ ms ρ h w s (Post.refl ρ h w) hf)
  | .region id ops true, a, env, h, w, ρ, ms, s, hwb, hf => by
    simp only [compCode] at hf ⊢
    split at hf
    · rename_i hB
      rw [if_pos hB]
      simp only [Bool.and_eq_true] at hB
      exact hdraw s hB.1 hB.2 hf
    · exact absurd rfl hf
  | .seq x y, a, env, h, w, ρ, ms, s, hwb, hf => by
    simp only [compCode, runCode] at hf ⊢
    refine wpIn_seq (wpIn_mono (sim_code hC hcall hn hdraw hrange hr x a env h w ρ ms s hwb (bind_ne hf)) fun e a' w' ho => ?_)
    cases hres : runCode C call fuel (compCode P n rnd x) env h with
    | fail => rw [hres] at ho; exact ho.elim
    | pan t h' =>
      rw [hres] at ho
      have ho' := ho
      obtain ⟨v, rfl, _⟩ := ho
      exact ho'
    | ok z h' =>
      obtain ⟨ex, env'⟩ := z
      rw [hres] at ho hf
      have ho' := ho
      obtain ⟨rfl, ρ', ms', s', p'⟩ := ho
      cases ex with
      | normal =>
        simp only [R.bind] at hf ⊢
        exact wpIn_mono (sim_code hC hcall hn hdraw hrange hr y a' env' h' w' ρ' ms' s' (Nat.le_trans hwb p'.grows) hf) fun e a'' w'' hq => hq.pre p'
      | exit i => exact ho'
      | ret => exact ho'
  | .cond c x y, a, env, h, w, ρ, ms, s, hwb, hf => by
    simp only [compCode, runCode] at hf ⊢
    have hc := opd_rel (C := C) s.env s.glob c
    generalize hcv : a.eval c = cv at hc
    generalize (opd c).get C env = tc at hc hf ⊢
    cases hc <;> try exact absurd rfl hf
    rename_i t
    cases t with
    | true => exact wpIn_cond_true hcv (sim_code hC hcall hn hdraw hrange hr x a env h w ρ ms s hwb hf)
    | false => exact wpIn_cond_false hcv (sim_code hC hcall hn hdraw hrange hr y a env h w ρ ms s hwb hf)
  | .block id c, a, env, h, w, ρ, ms, s, hwb, hf => by
    simp only [compCode, runCode] at hf ⊢
    refine wpIn_block (wpIn_mono (sim_code hC hcall hn hdraw hrange hr c a env h w ρ ms s hwb (bind_ne hf)) fun e a' w' ho => ?_)
    cases hres : runCode C call fuel (compCode P n rnd c) env h with
    | fail => rw [hres] at ho; exact ho.elim
    | pan t h' =>
      rw [hres] at ho
      have ho' := ho
      obtain ⟨v, rfl, _⟩ := ho
      exact ho'
    | ok z h' =>
      obtain ⟨ex, env'⟩ := z
      rw [hres] at ho
      have ho' := ho
      obtain ⟨rfl, ρ', ms', s', p'⟩ := ho
      cases ex with
      | normal => exact ho'
      | exit i =>
        simp only [exitOf, Exit.inBlock, R.bind, nbeq, Bool.cond_decide]
        by_cases hi : i = id
        · rw [if_pos hi, if_pos hi]
          exact ⟨rfl, ρ', ms', s', p'⟩
        · rw [if_neg hi, if_neg hi]
          exact ⟨rfl, ρ', ms', s', p'⟩
      | ret => exact ho'
  | .loop c, a, env, h, w, ρ, ms, s, hwb, hf => by
    simp only [compCode, runCode] at hf ⊢
    exact wpIn_loop_rounds fuel (sim_iter (body := fun env h => runCode C call fuel (compCode P n rnd c) env h) (fun a env h w ρ ms s hwb hf => sim_code hC hcall hn hdraw hrange hr c a env h w ρ ms s hwb hf) fuel a env h w ρ ms ρ h w s hwb (Post.refl ρ h w) hf)
  | .rangeFunc g ps x y, a, env, h, w, ρ, ms, s, hwb, hf => by
    simp only [compCode] at hf ⊢
    split at hf
    · rename_i hcond
      rw [if_pos hcond]
      simp only [Bool.and_eq_true, Bool.not_eq_true'] at hcond
      obtain ⟨h1, h2⟩ := hcond
      rw [hr h1]
      exact hrange s hwb h2 hf
    · exact absurd rfl hf
  | .exit i, a, env, h, w, ρ, ms, s, hwb, hf => wpIn_exit ⟨rfl, ρ, ms, s, Post.refl ρ h w⟩
  | .ret, a, env, h, w, ρ, ms, s, hwb, hf => wpIn_ret ⟨rfl, ρ, ms, s, Post.refl ρ h w⟩
  | .scope _, a, env, h, w, ρ, ms, s, hwb, hf => absurd rfl hf
  | .label _, a, env, h, w, ρ, ms, s, hwb, hf => absurd rfl hf
  | .goto _, a, env, h, w, ρ, ms, s, hwb, hf => absurd rfl hf
  | .refuse _, a, env, h, w, ρ, ms, s, hwb, hf => absurd rfl hf

end Go.E

namespace Go.E
variable {P : Program} {C : Ctx} {call : E.Call}

/-! ### Leaving a function -/
theorem BRel.keeps {ρ ρ' : Rn} {w w' : World} (K : Keeps ρ w ρ' w') {r : Nat} {blk : Blk} (hw : w'.heap[r]? = w.heap[r]?) (hb : BRel P ρ w r blk) : BRel P ρ' w' r blk := by
  cases blk with
  | cells cs e g frz =>
    obtain ⟨c, f, h1, h2, h3, h4, h5⟩ := hb
    exact ⟨c, f, hw.trans h1, h2, h3, h4.keep K, h5⟩
  | map es =>
    obtain ⟨es', clock, h1, g4, g2, g5⟩ := hb
    exact ⟨es', clock, hw.trans h1, g4.imp fun a b hd => ⟨hd.1, hd.2.keep K⟩, g2, g5⟩
  | loop ps env assign body st pending =>
    obtain ⟨lp, h1, h2⟩ := hb
    exact ⟨lp, hw.trans h1, ⟨h2.params, h2.small, h2.le, h2.env.keep K, h2.assign, h2.body, h2.state, h2.pending⟩⟩

/-- A block that bears no name is laid anew. -/
theorem unnamed_put {ρ : Rn} {w : World} {r : Nat} {d : Option (List Deferred)} {o : Obj} (hw : w.heap[r]? = some (.deferred d)) :
    Keeps ρ w ρ (w.putObj r o) := {
  L := fun h => h
  S := fun h => h
  cell := fun {r' o' x} _ hc => by
    by_cases hr : r' = r
    · subst hr; simp [World.cell?, hw] at hc
    · simpa [World.cell?, World.putObj_heap_other hr] using hc
  shape := fun {r' c e f} hh => by
    by_cases hr : r' = r
    · subst hr; rw [hw] at hh; cases hh
    · exact ⟨c, f, (World.putObj_heap_other hr).trans hh, rfl⟩
  maps := fun {r' es c} hh => by
    by_cases hr : r' = r
    · subst hr; rw [hw] at hh; cases hh
    · exact ⟨es, c, (World.putObj_heap_other hr).trans hh, fun e he => ⟨e, he, rfl, fun _ hk => hk⟩⟩ }

theorem Inv.unnamed {ρ : Rn} {h : H} {w : World} {r : Nat} {d : Option (List Deferred)} {o : Obj} (I : Inv P All ρ h w) (hw : w.heap[r]? = some (.deferred d)) (hu : ∀ b v, ρ.L b v ≠ some r) : Inv P All ρ h (w.putObj r o) where
  dom := I.dom
  fresh := I.fresh
  inj := I.inj
  lt := fun hL => by rw [World.putObj_size]; exact I.lt hL
  slt := fun hS => by rw [World.putObj_size]; exact I.slt hS
  mark := I.mark
  stab := I.stab
  vers := I.vers
  blk := fun {b blk r'} hX hg hL => BRel.keeps (unnamed_put hw) (World.putObj_heap_other (fun e => by subst e; exact hu _ _ hL)) (I.blk hX hg hL)

theorem Post.unnamed {ρ₀ ρ : Rn} {h₀ h : H} {w₀ w : World} {r : Nat} {d : Option (List Deferred)} {o : Obj} (p : Post ρ₀ h₀ w₀ ρ h w) (hw : w.heap[r]? = some (.deferred d)) (hr : w₀.heap.size ≤ r) : Post ρ₀ h₀ w₀ ρ h (w.putObj r o) where
  keeps := p.keeps.trans (unnamed_put hw)
  grows := by rw [World.putObj_size]; exact p.grows
  size := p.size
  mark := p.mark
  told := p.told
  newL := p.newL
  newS := p.newS
  rest := fun {r'} h1 h2 => (World.putObj_heap_other (by omega)).trans (p.rest h1 h2)
  same := p.same
  world := p.world

theorem takes {fn : Func} {tmps : Array Value} {R : Ending → World → Prop} {u : FrameMode} (hu : u ≠ .run) {ρ₀ ρ : Rn} {h₀ h : H} {w₀ : World} : ∀ (ms : List Nat) (w : World), ms.Nodup →
    (∀ r ∈ ms, w₀.heap.size ≤ r ∧ w.heap[r]? = some (.deferred (some [])) ∧ ∀ b v, ρ.L b v ≠ some r) → Inv P All ρ h w → Post ρ₀ h₀ w₀ ρ h w →
    (∀ w', Inv P All ρ h w' → Keeps ρ w ρ w' → Post ρ₀ h₀ w₀ ρ h w' → LeavesInM Fence.wide 0 P fn tmps R [] u w') → LeavesInM Fence.wide 0 P fn tmps R (ms.map mark') u w
  | [], w, _, _, I, p, H => H w I (Keeps.refl ρ w) p
  | r :: ms, w, hn, hall, I, p, H => by
    obtain ⟨h1, h2, h3⟩ := hall r (by simp)
    rw [List.nodup_cons] at hn
    refine ⟨hu, .inl ⟨r, w.putObj r (.deferred none), rfl, run_takeDeferred h2, ?_⟩⟩
    refine takes hu ms _ hn.2 (fun r' hr' => ?_) (I.unnamed h2 h3) (p.unnamed h2 h1) (fun w' I' K' p' => H w' I' ((unnamed_put h2).trans K') p')
    obtain ⟨g1, g2, g3⟩ := hall r' (by simp [hr'])
    exact ⟨g1, (World.putObj_heap_other (fun e => by subst e; exact hn.1 hr')).trans g2, g3⟩

/-! ### Results -/
def resF (tmps : Array Value) : ResultVar → Sem Value
  | .tmp t => pure (tmps.getD t undef)
  | .cell a t => do loadVar t (← asAddr (tmps.getD a undef))

theorem res_run {ρ : Rn} {h : H} {w : World} {tmps : Array Value} {env : Env} (I : Inv P All ρ h w) (he : ERel ρ w tmps env) {r : ResultVar} {er : ERes} (hc : compRes P r = some er) {t : V} (ht : resultOf env h er = some t) :
    ∃ v, (resF tmps r).run P w = .ok v w ∧ VRel ρ w v t := by
  cases r with
  | tmp i =>
    simp only [compRes] at hc
    split at hc
    · rename_i hi
      cases hc
      simp only [resultOf, Option.some.injEq] at ht
      subst ht
      exact ⟨_, rfl, he.2 i hi⟩
    · cases hc
  | cell i ty =>
    simp only [compRes] at hc
    split at hc
    · rename_i hi
      obtain ⟨g, hg, rfl⟩ := Option.map_eq_some_iff.1 hc
      have h1 := he.2 i hi
      simp only [resultOf] at ht
      simp only [resF]
      generalize tmps.getD i undef = v at h1
      generalize env.get (ix i) = tv at h1 ht
      cases h1 <;> try (simp at ht; done)
      rename_i b off u r hL
      obtain ⟨l, hr, hm⟩ := Option.bind_eq_some_iff.1 ht
      obtain ⟨vs, hvs, hcell⟩ := own_read I trivial hr hL
      obtain ⟨v, hrun, hrel⟩ := run_loadVar_rel hg hm hvs hcell
      exact ⟨v, by simp [asAddr, hrun], hrel⟩
    · cases hc

theorem ress_run {ρ : Rn} {h : H} {w : World} {tmps : Array Value} {env : Env} (I : Inv P All ρ h w) (he : ERel ρ w tmps env) : ∀ (rs : List ResultVar) (ers : List ERes) (ts : List V), rs.mapM (compRes P) = some ers → ers.mapM (resultOf env h) = some ts →
    ∃ vs, (rs.mapM (resF tmps)).run P w = .ok vs w ∧ VsRel ρ w vs ts
  | [], ers, ts, h1, h2 => by
    simp at h1
    subst h1
    simp at h2
    subst h2
    exact ⟨[], by simp, .nil⟩
  | r :: rs, ers, ts, h1, h2 => by
    simp only [List.mapM_cons, Option.bind_eq_bind, Option.pure_def, Option.bind_eq_some_iff, Option.some.injEq] at h1
    obtain ⟨er, hr, ers', hrs, rfl⟩ := h1
    simp only [List.mapM_cons, Option.bind_eq_bind, Option.pure_def, Option.bind_eq_some_iff, Option.some.injEq] at h2
    obtain ⟨t, ht, ts', hts, rfl⟩ := h2
    obtain ⟨v, g1, g2⟩ := res_run I he hr ht
    obtain ⟨vs, g3, g4⟩ := ress_run I he rs ers' ts' hrs hts
    exact ⟨v :: vs, by simp [List.mapM_cons, g1, g3], .cons g2 g4⟩

theorem results_eq (fn : Func) (tmps : Array Value) : results fn tmps = (do let vs ← fn.results.mapM (resF tmps); pure (if h : vs.size = 1 then vs[0] else .tuple vs) : Sem Value) := by
  unfold results
  congr 1

theorem results_run {ρ : Rn} {h : H} {w : World} {fn : Func} {tmps : Array Value} {env : Env} (I : Inv P All ρ h w) (he : ERel ρ w tmps env) {ers : List ERes} {t : V} (hc : fn.results.toList.mapM (compRes P) = some ers) (ht : resultsOf env h ers = some t) :
    ∃ v, (results fn tmps).run P w = .ok v w ∧ VRel ρ w v t := by
  simp only [resultsOf, Option.map_eq_some_iff] at ht
  obtain ⟨ts, hts, ht⟩ := ht
  obtain ⟨vs, h1, h2⟩ := ress_run I he _ ers ts hc hts
  have hrun : (fn.results.mapM (resF tmps)).run P w = .ok vs.toArray w := by
    rw [Array.mapM_eq_mapM_toList]
    simp [h1]
  rw [results_eq]
  refine ⟨if h : vs.toArray.size = 1 then vs.toArray[0] else .tuple vs.toArray, by simp [hrun], ?_⟩
  cases h2 with
  | nil => simp at ht; subst ht; simp; exact .tup .nil
  | cons h3 h4 =>
    cases h4 with
    | nil => simp at ht; subst ht; simpa using h3
    | cons h5 h6 => simp at ht; subst ht; simp; exact .tup (.cons h3 (.cons h5 h6))

/-! ### A function's body -/
theorem args_env {ρ : Rn} {w : World} : ∀ (vs : List Value) (ts : List V) (i : Nat) (env : Env) (f : Nat → Value), VsRel ρ w vs ts → i + vs.length ≤ 512 → (∀ t, t < 512 → VRel ρ w (f t) (env.get (ix t))) →
    ∀ t, t < 512 → VRel ρ w (if i ≤ t ∧ t < i + vs.length then vs.getD (t - i) undef else f t) ((Env.args env i ts).get (ix t))
  | _, _, i, env, f, .nil, _, hf, t, ht => by simp [Env.args]; rw [if_neg (by omega)]; exact hf t ht
  | _, _, i, env, f, .cons (v := v) (t := tv) (vs := vs) (ts := ts) h1 h2, hl, hf, t, ht => by
    simp only [List.length_cons] at hl
    have ih := args_env vs ts (i + 1) (env.set (ix i) tv) (fun t => if t = i then v else f t) h2 (by omega) (fun t ht => by
      rw [Env.get_set]
      by_cases e : t = i
      · subst e; simpa using h1
      · rw [if_neg e, if_neg (fun hh => e (ix_inj ht (by omega) hh.symm))]; exact hf t ht) t ht
    simp only [Env.args]
    by_cases e : t = i
    · subst e
      rw [if_neg (by omega)] at ih
      rw [if_pos (by simp)]
      simpa using ih
    · by_cases h3 : i + 1 ≤ t ∧ t < i + 1 + vs.length
      · rw [if_pos h3] at ih
        rw [if_pos (by simp; omega)]
        have : t - i = (t - (i + 1)) + 1 := by omega
        rw [this]
        simpa using ih
      · rw [if_neg h3] at ih
        rw [if_neg (by simp; omega)]
        simpa [e] using ih

theorem enter_env {ρ : Rn} {w : World} {args : Array Value} {targs : List V} {n : Nat} (hv : VsRel ρ w args.toList targs) (hn : n ≤ 511) (hl : targs.length ≤ n) :
    (args ++ Array.replicate (n - args.size) undef).size = n ∧ ERel ρ w (args ++ Array.replicate (n - args.size) undef) (Env.args .none 0 targs) := by
  have hlen := hv.length
  rw [Array.length_toList] at hlen
  have hs : (args ++ Array.replicate (n - args.size) undef).size = n := by simp; omega
  refine ⟨hs, by omega, fun t ht => ?_⟩
  have := args_env args.toList targs 0 .none (fun _ => undef) hv (by rw [Array.length_toList]; omega) (fun t ht => by rw [Env.get_none]; exact undef_rel ρ w) t ht
  rw [Array.length_toList] at this
  by_cases h : t < args.size
  · rw [if_pos (by omega)] at this
    have e : (args ++ Array.replicate (n - args.size) undef).getD t undef = args.toList.getD (t - 0) undef := by
      simp [Array.getD_eq_getD_getElem?, Array.getElem?_append, h]
    rw [e]; exact this
  · rw [if_neg (by omega)] at this
    have e : (args ++ Array.replicate (n - args.size) undef).getD t undef = undef := by
      simp only [Array.getD_eq_getD_getElem?, Array.getElem?_append, h, if_false]
      rw [Array.getElem?_replicate]
      split <;> rfl
    rw [e]; exact this

end Go.E
