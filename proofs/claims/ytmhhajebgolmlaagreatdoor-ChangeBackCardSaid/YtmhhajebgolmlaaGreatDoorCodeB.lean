/- Bodies and calls of the plain machine, held against the model's. -/
import Derived.Test.YtmhhajebgolmlaaGreatDoorCodeA
import Derived.Test.YtmhhajebgolmlaaGreatDoorDraw
set_option linter.unusedSimpArgs false
set_option linter.unusedVariables false
namespace Go.E
variable {P : Program} {C : Ctx} {call : E.Call}

/-! ### A call of a function -/
/-- what a call's contract asks -/
def CallR (P : Program) (ρ : Rn) (h : H) (w : World) : R V → Ending → World → Prop
  | .ok t h', .returned v, w' => Good P ρ h w t h' v w'
  | .pan t h', .panicked chain, w' => ∃ v, chain = [{ v, recovered := false }] ∧ Good P ρ h w t h' v w'
  | _, _, _ => False

theorem compFunc_eq {fn : Func} {efn : EFunc} (h : compFunc P fn = some efn) : ∃ c rs, fn.body = some c ∧ fn.ntmps ≤ 511 ∧ fn.results.toList.mapM (compRes P) = some rs ∧ efn = { ntmps := fn.ntmps, results := rs, body := compCode P fn.ntmps false c } := by
  unfold compFunc at h
  split at h
  · cases h
  · rename_i hn
    split at h
    · rename_i c rs h1 h2
      cases h
      exact ⟨c, rs, h1, by omega, h2, rfl⟩
    · cases h

theorem sim_body (hC : CtxOk P C) (hcall : CallSim P C call) (hdraw : ∀ n, n ≤ 511 → ∀ wb, DrawSim P C call n wb) (hrange : ∀ n, n ≤ 511 → ∀ wb, RangeSim P C call n wb) {f : FuncId} {fn : Func} {efn : EFunc} (hf : P.funcs[f]? = some fn) (hcomp : compFunc P fn = some efn)
    {fuel : Nat} {ρ : Rn} {h : H} {w : World} {args : Array Value} {targs : List V} (I : Inv P All ρ h w) (hg : Globs ρ w C) (hargs : VsRel ρ w args.toList targs) (hne : body C call fuel efn targs h ≠ .fail) :
    CallsIn Fence.wide 0 P f args w (CallR P ρ h w (body C call fuel efn targs h)) := by
  obtain ⟨c, rs, hb, hn, hrs, rfl⟩ := compFunc_eq hcomp
  unfold body at hne ⊢
  simp only [nble, Bool.cond_eq_ite, Bool.not_eq_true', decide_eq_false_iff_not] at hne ⊢
  by_cases hl : targs.length ≤ fn.ntmps
  · rw [if_neg (by simpa using hl)] at hne ⊢
    obtain ⟨e1, e2⟩ := enter_env hargs hn hl
    refine callsIn_of_wp_marks hf hb trivial ?_
    have hsim := sim_code hC hcall hn (hdraw fn.ntmps hn w) (hrange fn.ntmps hn w) (r := none) (rnd := false) (fun _ => rfl) (fuel := fuel) c
      { tmps := args ++ Array.replicate (fn.ntmps - args.size) undef, defers := [] } (Env.args .none 0 targs) h w ρ [] ⟨I, hg, e1, e2, ⟨rfl, by simp, by simp⟩⟩ (Nat.le_refl _) (bind_ne hne)
    refine wpIn_mono hsim fun e a' w' ho => ?_
    cases hres : runCode C call fuel (compCode P fn.ntmps false c) (Env.args .none 0 targs) h with
    | fail => rw [hres] at ho; exact ho.elim
    | pan t h' =>
      rw [hres] at ho
      obtain ⟨v, rfl, ρ', ms', hv, I', m, p⟩ := ho
      simp only [bodyPostM, R.bind]
      rw [m.eq]
      exact takes (by simp) ms' w' m.nodup m.all I' p (fun w'' I'' K'' p'' => ⟨v, rfl, ρ', hv.keep K'', I'', p''⟩)
    | ok z h' =>
      obtain ⟨ex, env'⟩ := z
      rw [hres] at ho hne
      obtain ⟨rfl, ρ', ms', s', p⟩ := ho
      have hend : o2r (resultsOf env' h' rs) h' ≠ .fail → LeavesInM Fence.wide 0 P fn a'.tmps (CallR P ρ h w (o2r (resultsOf env' h' rs) h')) a'.defers .returning w' := by
        intro hne'
        cases ht : resultsOf env' h' rs with
        | none => rw [ht] at hne'; exact absurd rfl hne'
        | some t =>
          rw [s'.marks.eq]
          refine takes (by simp) ms' w' s'.marks.nodup s'.marks.all s'.inv p (fun w'' I'' K'' p'' => ?_)
          obtain ⟨v, g1, g2⟩ := results_run I'' (s'.env.keep K'') hrs ht
          exact ⟨v, g1, ρ', g2, I'', p''⟩
      cases ex with
      | normal => exact hend hne
      | ret => exact hend hne
      | exit i => exact absurd rfl hne
  · rw [if_pos (by simpa using hl)] at hne
    exact absurd rfl hne

end Go.E

namespace Go.E
variable {P : Program} {C : Ctx} {call : E.Call}

/-! ### The loop's record -/
theorem Inv.putLoop {ρ : Rn} {h : H} {w : World} (I : Inv P All ρ h w) {b r : Nat} {ps ps' : List Ix} {env env' : Env} {as bo as' bo' : ECode} {st st' : Nat} {pd pd' : Option ECode} {lp lp' : Loop}
    (hg : h.get b = some (.loop ps env as bo st pd)) (hL : ρ.L b 0 = some r) (hw : w.heap[r]? = some (.loop lp))
    (hM : Keeps ρ w ρ (w.putObj r (.loop lp')) → LRel P ρ (w.putObj r (.loop lp')) lp' ps' env' as' bo' st' pd') :
    Inv P All ρ (h.put b (.loop ps' env' as' bo' st' pd')) (w.putObj r (.loop lp')) ∧ Post ρ h w ρ (h.put b (.loop ps' env' as' bo' st' pd')) (w.putObj r (.loop lp')) := by
  have hlt := I.lt hL
  have hs1 : (w.putObj r (.loop lp')).heap[r]? = some (.loop lp') := World.putObj_heap_same hlt
  have hs2 : ∀ r', r' ≠ r → (w.putObj r (.loop lp')).heap[r']? = w.heap[r']? := fun r' hr' => World.putObj_heap_other hr'
  have K : Keeps ρ w ρ (w.putObj r (.loop lp')) := {
    L := fun h => h
    S := fun h => h
    cell := fun {r' o x} _ hc => by
      by_cases hr' : r' = r
      · subst hr'; simp [World.cell?, hw] at hc
      · simpa [World.cell?, hs2 r' hr'] using hc
    shape := fun {r' c e f} hh => by
      by_cases hr' : r' = r
      · subst hr'; rw [hw] at hh; cases hh
      · exact ⟨c, f, (hs2 r' hr').trans hh, rfl⟩
    maps := fun {r' es2 c2} hh => by
      by_cases hr' : r' = r
      · subst hr'; rw [hw] at hh; cases hh
      · exact ⟨es2, c2, (hs2 r' hr').trans hh, fun e he => ⟨e, he, rfl, fun _ hk => hk⟩⟩ }
  exact I.put (blk' := .loop ps' env' as' bo' st' pd') hg (by simpa [ver] using hL) rfl (by simp) hs2 K ⟨rfl, rfl, rfl⟩ (fun o hS => by
    obtain ⟨_, _, _, _, e2, _⟩ := I.stab trivial hg (by simpa [ver] using hL) hS
    cases e2) ⟨lp', hs1, hM K⟩

theorem Inv.loop_at {ρ : Rn} {h : H} {w : World} (I : Inv P All ρ h w) {b r : Nat} {ps : List Ix} {env : Env} {as bo : ECode} {st : Nat} {pd : Option ECode}
    (hg : h.get b = some (.loop ps env as bo st pd)) (hL : ρ.L b 0 = some r) : ∃ lp, w.heap[r]? = some (.loop lp) ∧ LRel P ρ w lp ps env as bo st pd :=
  I.blk trivial hg (by simpa [ver] using hL)

/-! ### A round -/
theorem zip_env {ρ : Rn} {w : World} : ∀ (ps : List Tmp) (vs : List Value) (ts : List V) (tmps : Array Value) (env : Env), VsRel ρ w vs ts → ps.all (· < tmps.size) = true → ERel ρ w tmps env →
    ((ps.zip vs).foldl (fun tmps (p : Tmp × Value) => tmps.setIfInBounds p.1 p.2) tmps).size = tmps.size ∧
    ERel ρ w ((ps.zip vs).foldl (fun tmps (p : Tmp × Value) => tmps.setIfInBounds p.1 p.2) tmps) (((ps.map ix).zip ts).foldl (fun e (p : Ix × V) => e.set p.1 p.2) env)
  | [], _, _, tmps, env, _, _, he => ⟨rfl, he⟩
  | p :: ps, _, _, tmps, env, .nil, _, he => ⟨rfl, he⟩
  | p :: ps, _, _, tmps, env, .cons (v := v) (t := t) h1 h2, hp, he => by
    simp only [List.all_cons, Bool.and_eq_true, decide_eq_true_eq] at hp
    have := zip_env ps _ _ (tmps.setIfInBounds p v) (env.set (ix p) t) h2 (by simpa using hp.2) (he.put hp.1 h1)
    simpa using this

theorem endRound_sim {ρ : Rn} {h : H} {w : World} (I : Inv P All ρ h w) {b r : Nat} {ps : List Ix} {env : Env} {as bo : ECode} {st : Nat} {pd : Option ECode} (hg : h.get b = some (.loop ps env as bo st pd)) (hL : ρ.L b 0 = some r)
    (jump : Option Code) (st' : Nat) (pd' : Option ECode) (hst : (if jump.isNone then LoopState.ready else .done) = (match st' with | 0 => .ready | 1 => .busy | 2 => .done | _ => .exhausted)) (hpd : jump = (match pd' with | some .ret => some .ret | some (.exit i) => some (.exit i) | _ => none)) :
    ∃ w', (Instr.endRound r jump).run P w = .ok (.bool jump.isNone) w' ∧ Inv P All ρ (h.put b (.loop ps env as bo st' pd')) w' ∧ Post ρ h w ρ (h.put b (.loop ps env as bo st' pd')) w' := by
  obtain ⟨lp, hw, hl⟩ := I.loop_at hg hL
  refine ⟨_, run_endRound jump hw, ?_⟩
  exact I.putLoop hg hL hw (fun K => ⟨hl.params, hl.small, hl.le, hl.env.keep K, hl.assign, hl.body, hst, hpd⟩)

theorem sim_round (hC : CtxOk P C) (hcall : CallSim P C call) (hdraw : ∀ n, n ≤ 511 → ∀ wb, DrawSim P C call n wb) (hrange : ∀ n, n ≤ 511 → ∀ wb, RangeSim P C call n wb) {fuel : Nat} {ρ : Rn} {h : H} {w : World} {l r : Nat} {args : Array Value} {targs : List V}
    (I : Inv P All ρ h w) (hg : Globs ρ w C) (hL : ρ.L l 0 = some r) (hargs : VsRel ρ w args.toList targs) : CallOut P ρ h w ((Instr.yield r args).run P w) (roundE C call fuel l targs h) := by
  unfold roundE
  cases hget : h.get l with
  | none => trivial
  | some blk =>
    cases blk with
    | cells _ _ _ _ => trivial
    | map _ => trivial
    | loop ps env assign body st pd =>
      simp only [nbeq, Bool.cond_eq_ite, Bool.not_eq_true', decide_eq_false_iff_not]
      split
      · trivial
      rename_i hlen
      simp only [Decidable.not_not] at hlen
      obtain ⟨lp, hw, hl⟩ := I.loop_at hget hL
      have hsz : args.size = lp.params.size := by
        have h1 := hargs.length
        rw [Array.length_toList] at h1
        have h2 : ps.length = lp.params.size := by rw [← hl.params]; simp
        omega
      rw [run_yield hw hsz]
      have hz := zip_env lp.params.toList args.toList targs lp.tmps env hargs (by simpa using hl.small) hl.env
      rw [hl.params] at hz
      cases hr1 : runCode C call fuel assign ((ps.zip targs).foldl (fun e (t, a) => e.set t a) env) h with
      | fail => trivial
      | pan _ _ => trivial
      | ok x h1 =>
        obtain ⟨ex1, env1⟩ := x
        cases ex1 with
        | exit i => trivial
        | ret => trivial
        | normal =>
          simp only
          cases hget1 : h1.get l with
          | none => trivial
          | some blk1 =>
            cases blk1 with
            | cells _ _ _ _ => trivial
            | map _ => trivial
            | loop ps1 e1 as1 bo1 st1 pd1 =>
              cases st1 with
              | succ _ => trivial
              | zero =>
                simp only
                cases hr2 : runCode C call fuel body env1 (h1.put l (.loop ps1 e1 as1 bo1 1 pd1)) with
                | fail => trivial
                | pan _ _ => trivial
                | ok y h2 =>
                  obtain ⟨ex2, env2⟩ := y
                  simp only
                  cases hget2 : h2.get l with
                  | none => trivial
                  | some blk2 =>
                    cases blk2 with
                    | cells _ _ _ _ => trivial
                    | map _ => trivial
                    | loop ps2 e2 as2 bo2 st2 pd2 =>
                      have hne1 : runCode C call fuel (compCode P lp.tmps.size true lp.assign) ((ps.zip targs).foldl (fun e (t, a) => e.set t a) env) h ≠ .fail := by
                        rw [hl.assign, hr1]; simp
                      have hne2 : runCode C call fuel (compCode P lp.tmps.size true lp.body) env1 (h1.put l (.loop ps1 e1 as1 bo1 1 pd1)) ≠ .fail := by
                        rw [hl.body, hr2]; simp
                      have fin : ∀ (R : Ending → World → Prop), (∀ ρ₂ a₂ w₂, Inv P All ρ₂ h2 w₂ → Post ρ h w ρ₂ h2 w₂ → roundPost P r R (exitOf ex2) a₂ w₂) →
                          RoundIn Fence.wide 0 P r lp.fn ((lp.params.zip args).foldl (fun tmps (t, a) => tmps.setIfInBounds t a) lp.tmps) lp.assign lp.body w R := by
                        intro R hR
                        refine roundIn_of_wpIn trivial ?_
                        have htm : ((lp.params.zip args).foldl (fun tmps (t, a) => tmps.setIfInBounds t a) lp.tmps) = (lp.params.toList.zip args.toList).foldl (fun tmps (p : Tmp × Value) => tmps.setIfInBounds p.1 p.2) lp.tmps := by
                          rw [← Array.foldl_toList, Array.toList_zip]
                        rw [htm]
                        have s1 := sim_code hC hcall hl.le (hdraw lp.tmps.size hl.le w) (hrange lp.tmps.size hl.le w) (r := some r) (rnd := true) (fun h => by cases h) (fuel := fuel) lp.assign
                          { tmps := (lp.params.toList.zip args.toList).foldl (fun tmps (p : Tmp × Value) => tmps.setIfInBounds p.1 p.2) lp.tmps, defers := [] } _ h w ρ [] ⟨I, hg, hz.1, hz.2, ⟨rfl, by simp, by simp⟩⟩ (Nat.le_refl _) hne1
                        refine wpIn_mono s1 fun e a₁ w₁ ho => ?_
                        rw [hl.assign, hr1] at ho
                        obtain ⟨rfl, ρ₁, ms₁, st₁, p₁⟩ := ho
                        obtain ⟨lp1, hw1, hl1⟩ := st₁.inv.loop_at hget1 (p₁.keeps.L hL)
                        have hready : lp1.state = .ready := hl1.state
                        obtain ⟨I₂, p₂⟩ := st₁.inv.putLoop (lp' := { lp1 with state := .busy }) (st' := 1) (pd' := pd1) hget1 (p₁.keeps.L hL) hw1 (fun K => ⟨hl1.params, hl1.small, hl1.le, hl1.env.keep K, hl1.assign, hl1.body, rfl, hl1.pending⟩)
                        refine ⟨_, run_beginRound hw1 hready, ?_⟩
                        have s2 := sim_code hC hcall hl.le (hdraw lp.tmps.size hl.le w) (hrange lp.tmps.size hl.le w) (r := some r) (rnd := true) (fun h => by cases h) (fuel := fuel) lp.body
                          a₁ env1 _ _ ρ₁ ms₁ ⟨I₂, st₁.glob.keep p₂.keeps, st₁.size, st₁.env.keep p₂.keeps, st₁.marks.keep p₂ rfl⟩ (Nat.le_trans p₁.grows p₂.grows) hne2
                        refine wpIn_mono s2 fun e a₂ w₂ ho => ?_
                        rw [hl.body, hr2] at ho
                        obtain ⟨rfl, ρ₂, ms₂, st₂, p₃⟩ := ho
                        exact hR ρ₂ a₂ w₂ st₂.inv ((p₁.trans p₂).trans p₃)
                      cases ex2 with
                      | normal =>
                        refine fin _ fun ρ₂ a₂ w₂ I₂ p₂ => ?_
                        obtain ⟨w₃, e1, I₃, p₃⟩ := endRound_sim I₂ hget2 (p₂.keeps.L hL) none 0 none rfl rfl
                        exact ⟨_, _, e1, ρ₂, .bool true, I₃, p₂.trans p₃⟩
                      | ret =>
                        refine fin _ fun ρ₂ a₂ w₂ I₂ p₂ => ?_
                        obtain ⟨w₃, e1, I₃, p₃⟩ := endRound_sim I₂ hget2 (p₂.keeps.L hL) (some .ret) 2 (some .ret) rfl rfl
                        exact ⟨_, _, e1, ρ₂, .bool false, I₃, p₂.trans p₃⟩
                      | exit i =>
                        refine fin _ fun ρ₂ a₂ w₂ I₂ p₂ => ?_
                        obtain ⟨w₃, e1, I₃, p₃⟩ := endRound_sim I₂ hget2 (p₂.keeps.L hL) (some (.exit i)) 2 (some (.exit i)) rfl rfl
                        exact ⟨_, _, e1, ρ₂, .bool false, I₃, p₂.trans p₃⟩

end Go.E

namespace Go.E
variable {P : Program} {C : Ctx} {call : E.Call}

/-! ### A range over a function -/
theorem Inv.newUnnamed {ρ : Rn} {h : H} {w : World} (I : Inv P All ρ h w) (o : Obj) : Inv P All ρ h (w.alloc o) ∧ Post ρ h w ρ h (w.alloc o) ∧ ∀ b v, ρ.L b v ≠ some w.heap.size := by
  have K := Keeps.alloc ρ w o ρ (fun h => h) (fun h => h)
  have hu : ∀ b v, ρ.L b v ≠ some w.heap.size := fun b v hv => absurd (I.lt hv) (by omega)
  refine ⟨{ dom := I.dom, fresh := I.fresh, inj := I.inj, lt := fun hL => by have := I.lt hL; simp; omega, slt := fun hS => by have := I.slt hS; simp; omega, mark := I.mark, stab := I.stab, vers := I.vers, blk := fun {b blk r} hX hg hL => ?_ }, ?_, hu⟩
  · exact BRel.keeps K (by rw [alloc_heap, if_neg (by have := I.lt hL; omega)]) (I.blk hX hg hL)
  · exact { keeps := K, grows := by simp, size := Nat.le_refl _, mark := rfl, told := fun _ h => h, newL := (fun h1 h2 => by rw [h1] at h2; cases h2), newS := fun h => .inl h,
            rest := fun {r} hr _ => by rw [alloc_heap, if_neg (by omega)], same := fun _ _ => rfl, world := ⟨rfl, rfl, rfl⟩ }

/-- a function of E's is one of the program's -/
structure FuncsOk (P : Program) (C : Ctx) : Prop where
  func : ∀ f efn, C.func f = some efn → ∃ fn, P.funcs[f]? = some fn ∧ compFunc P fn = some efn ∧ (fn.name == "runtime.NumGoroutine") = false

theorem callFunc_enter (hF : FuncsOk P C) {f : Nat} {efn : EFunc} (h : C.func f = some efn) (args : Array Value) (w : World) : (callFunc f args).run P w = .ok (.enter f args) w := by
  obtain ⟨fn, h1, h2, h3⟩ := hF.func f efn h
  obtain ⟨c, rs, hb, _⟩ := compFunc_eq h2
  simp only [callFunc, Sem.run_bind, run_program, Result.andThen_ok, h1, h3, hb]
  simp

theorem sim_range (hF : FuncsOk P C) (hcall : CallSim P C call) {n : Nat} (hn : n ≤ 511) {wb : World} : RangeSim P C call n wb := by
  intro g ps assign body a env h w ρ ms fuel s hwb hps hf
  simp only [runCode] at hf ⊢
  have hgv := opd_rel (C := C) s.env s.glob g
  generalize hga : a.eval g = gv at hgv
  generalize (opd g).get C env = tg at hgv hf ⊢
  cases hgv <;> try exact absurd rfl hf
  rename_i fn fn' first cap first' cap' hfn hfirst hcap
  cases hfn with
  | yield _ => exact absurd rfl hf
  | func fi =>
    simp only at hf ⊢
    cases hfu : C.func fi with
    | none => rw [hfu] at hf; exact absurd rfl hf
    | some efn =>
      simp only [hfu] at hf ⊢
      obtain ⟨I1, p1, hu1⟩ := s.inv.newUnnamed (.deferred (some []))
      have hfr := I1
      refine wpIn_rangeFunc (F := fence none) (fun fnid _ => ?_)
      obtain ⟨I2, p2, hL2⟩ := I1.push (blk := .loop (ps.toList.map ix) env (compCode P n true assign) (compCode P n true body) 0 none)
        (o := .loop { state := .ready, pending := none, fn := fnid, tmps := a.tmps, params := ps, assign := assign, body := body, defers := w.heap.size }) (fun ρ' _ K => by
          refine ⟨_, by rw [alloc_heap, if_pos rfl], ⟨rfl, ?_, (by simp only [s.size]; exact hn), (s.env.keep p1.keeps).keep K, by simp only [s.size], by simp only [s.size], rfl, rfl⟩⟩
          simp only [s.size]
          exact hps)
      refine ⟨w.heap.size + 1, [mark' w.heap.size], ((w.alloc (.deferred (some []))).alloc (.loop { state := .ready, pending := none, fn := fnid, tmps := a.tmps, params := ps, assign := assign, body := body, defers := w.heap.size })), { target := .fn (.func fi) cap, args := first ++ #[.func (.yield (w.heap.size + 1)) #[] #[]] }, ((w.alloc (.deferred (some []))).alloc (.loop { state := .ready, pending := none, fn := fnid, tmps := a.tmps, params := ps, assign := assign, body := body, defers := w.heap.size })), fi, (first ++ #[.func (.yield (w.heap.size + 1)) #[] #[]]) ++ cap, ((w.alloc (.deferred (some []))).alloc (.loop { state := .ready, pending := none, fn := fnid, tmps := a.tmps, params := ps, assign := assign, body := body, defers := w.heap.size })), run_enterLoop_outer fnid a.tmps ps assign body, ?_, ?_, ?_, (fun h => by cases h), ?_⟩
      · simp only [Go.resolve, rangeCall, hga, Deferred.ofValue, Sem.run_pure]
        have : (#[Operand.const (Value.func (Fn.yield (w.heap.size + 1)) #[] #[])] : Array Operand).map a.eval = #[Value.func (Fn.yield (w.heap.size + 1)) #[] #[]] := by simp [Act.eval]
        rw [this]
      · intro _ _; trivial
      · simp only [invoke]
        exact callFunc_enter hF hfu _ _
      · have hc := hcall (I2.all fun b => .inl trivial) ((s.glob.keep p1.keeps).keep p2.keeps) (g := .func (.func fi) first cap) (tg := .func (.func fi) first' cap') (args := #[.func (.yield (w.heap.size + 1)) #[] #[]]) (targs := [.func (.yield h.size) [] []])
          (.func (.func fi) ((hfirst.keep p1.keeps).keep p2.keeps) ((hcap.keep p1.keeps).keep p2.keeps)) (.cons (.func (.yield (by simpa [ver] using hL2)) .nil .nil) .nil)
        have hrun : ∀ W : World, (do let d ← Deferred.ofValue (.func (.func fi) first cap) #[.func (.yield (w.heap.size + 1)) #[] #[]]; invoke d.target d.args : Sem Next).run P W = .ok (.enter fi ((first ++ #[.func (.yield (w.heap.size + 1)) #[] #[]]) ++ cap)) W := fun W => by
          simp only [Deferred.ofValue, Sem.run_bind, Sem.run_pure, Result.andThen_ok, invoke]
          exact callFunc_enter hF hfu _ _
        rw [hrun] at hc
        have hm1 : Mks wb ρ (w.alloc (.deferred (some []))) { a with defers := [mark' w.heap.size] ++ a.defers } (w.heap.size :: ms) := {
          eq := by rw [s.marks.eq]; rfl
          nodup := List.nodup_cons.2 ⟨fun hm => by have := lt_of_some (s.marks.all _ hm).2.1; omega, s.marks.nodup⟩
          all := fun r hr => by
            rcases List.mem_cons.1 hr with rfl | hr
            · exact ⟨hwb, by rw [alloc_heap, if_pos rfl], hu1⟩
            · exact (s.marks.keep p1 (a' := a) rfl).all r hr }
        cases hres : call (.func (.func fi) first' cap') [.func (.yield h.size) [] []] (h.push (.loop (ps.toList.map ix) env (compCode P n true assign) (compCode P n true body) 0 none)) with
        | fail => rw [hres] at hf; exact absurd rfl hf
        | pan t h1 =>
          rw [hres] at hc
          refine (show CallsIn _ _ _ _ _ _ _ from hc).mono fun e w3 he => ?_
          cases e with
          | returned v => exact he.elim
          | outgrown => exact he.elim
          | panicked chain =>
            obtain ⟨v, rfl, ρ3, hv, I3, p3⟩ := he
            exact ⟨v, rfl, ρ3, _, hv, I3, hm1.keep (p2.trans p3) rfl, p1.trans (p2.trans p3)⟩
        | ok t h1 =>
          rw [hres] at hc hf
          refine (show CallsIn _ _ _ _ _ _ _ from hc).mono fun e w3 he => ?_
          cases e with
          | panicked chain => obtain ⟨v, _, hh⟩ := he; exact hh.elim
          | outgrown => exact he.elim
          | returned v =>
            obtain ⟨ρ3, hv, I3, p3⟩ := he
            simp only [R.bind] at hf ⊢
            cases hget : h1.get h.size with
            | none => rw [hget] at hf; exact absurd rfl hf
            | some blk =>
              cases blk with
              | cells _ _ _ _ => rw [hget] at hf; exact absurd rfl hf
              | map _ => rw [hget] at hf; exact absurd rfl hf
              | loop ps1 env1 as1 bo1 st pd =>
                rw [hget] at hf
                simp only [nbeq, Bool.cond_decide] at hf ⊢
                by_cases hst : st = 1
                · rw [if_pos hst] at hf; exact absurd rfl hf
                · rw [if_neg hst] at hf
                  have hL3 : ρ3.L h.size 0 = some (w.heap.size + 1) := p3.keeps.L (by simpa [ver] using hL2)
                  obtain ⟨lp, hw3, hl3⟩ := I3.loop_at hget hL3
                  have hbusy : lp.state ≠ .busy := by
                    rw [hl3.state]
                    match st, hst with
                    | 0, _ => simp
                    | 1, h => exact absurd rfl h
                    | 2, _ => simp
                    | _ + 3, _ => simp
                  obtain ⟨I4, p4⟩ := I3.putLoop (lp' := { lp with state := .exhausted }) (st' := 3) (pd' := pd) hget hL3 hw3 (fun K => ⟨hl3.params, hl3.small, hl3.le, hl3.env.keep K, hl3.assign, hl3.body, rfl, hl3.pending⟩)
                  have hend := run_endLoop (P := P) hw3 hbusy
                  have P4 := p1.trans (p2.trans (p3.trans p4))
                  have S4 : St P C n wb ρ3 (h1.put h.size (.loop ps1 env1 as1 bo1 3 pd)) (w3.putObj (w.heap.size + 1) (.loop { lp with state := .exhausted })) { a with defers := [mark' w.heap.size] ++ a.defers } env (w.heap.size :: ms) :=
                    ⟨I4, s.glob.keep P4.keeps, s.size, s.env.keep P4.keeps, hm1.keep (p2.trans (p3.trans p4)) rfl⟩
                  rw [if_neg hst]
                  generalize w3.putObj (w.heap.size + 1) (.loop { lp with state := .exhausted }) = w4 at hend P4 S4
                  rw [hl3.pending] at hend
                  cases pd with
                  | none => exact ⟨none, w4, hend, rfl, ρ3, _, S4, P4⟩
                  | some c =>
                    cases c <;> try exact absurd rfl hf
                    · exact ⟨_, w4, hend, wpIn_exit ⟨rfl, ρ3, _, S4, P4⟩⟩
                    · exact ⟨_, w4, hend, wpIn_ret ⟨rfl, ρ3, _, S4, P4⟩⟩

end Go.E

namespace Go.E
variable {P : Program} {C : Ctx} {call : E.Call}

/-! ### Calls, to any depth -/
def SpecSim (P : Program) (C : Ctx) (call : E.Call) : Prop :=
  ∀ {f : Nat} {s : Sp}, C.spec f = some s → ∀ {ρ : Rn} {h : H} {w : World} {args : Array Value} {targs : List V}, Inv P All ρ h w → Globs ρ w C → VsRel ρ w args.toList targs →
    CallOut P ρ h w ((callFunc f args).run P w) (special call s targs h)

def ApartSim (P : Program) (C : Ctx) (call : E.Call) (fuel : Nat) : Prop :=
  ∀ {f : Nat} {efn : EFunc}, C.func f = some efn → C.apart f = true → ∀ {ρ : Rn} {h : H} {w : World} {args : Array Value} {targs : List V}, Inv P All ρ h w → Globs ρ w C → VsRel ρ w args.toList targs →
    CallOut P ρ h w ((callFunc f args).run P w) (runApart C call fuel f efn targs h)

theorem CallOut.of_calls {ρ : Rn} {h : H} {w : World} {f : FuncId} {args : Array Value} {res : R V} (hne : res ≠ .fail → CallsIn Fence.wide 0 P f args w (CallR P ρ h w res)) : CallOut P ρ h w (.ok (.enter f args) w) res := by
  cases res with
  | fail => trivial
  | ok t h' =>
    refine (show CallsIn _ _ _ _ _ _ _ from hne (by simp)).mono fun e w' he => ?_
    cases e with
    | returned v => exact he
    | panicked chain => exact he.elim
    | outgrown => exact he.elim
  | pan t h' =>
    refine (show CallsIn _ _ _ _ _ _ _ from hne (by simp)).mono fun e w' he => ?_
    cases e with
    | returned v => exact he.elim
    | panicked chain => exact he
    | outgrown => exact he.elim

theorem callN_sim (hC : CtxOk P C) (hF : FuncsOk P C) (hm : P.follows .mixedOrders = true) (hspec : ∀ call, CallSim P C call → SpecSim P C call) (happ : ∀ n fuel, CallSim P C (callN C n) → ApartSim P C (callN C n) fuel) :
    ∀ n, CallSim P C (callN C n) := by
  intro n
  induction n with
  | zero => intro _ _ _ _ _ _ _ _ _ _ _; trivial
  | succ n ih =>
    have hdraw : ∀ k, k ≤ 511 → ∀ wb, DrawSim P C (callN C n) k wb := fun k hk wb => draw_sim hC ih (callN_step C n) hm hk
    have hrange : ∀ k, k ≤ 511 → ∀ wb, RangeSim P C (callN C n) k wb := fun k hk wb => sim_range hF ih hk
    intro ρ h w g tg args targs I hg hgv hargs
    simp only [callN]
    cases hgv <;> try trivial
    rename_i fn fn' first cap first' cap' hfn hfirst hcap
    cases hfn with
    | func f =>
      have hrun : (do let d ← Deferred.ofValue (.func (.func f) first cap) args; invoke d.target d.args : Sem Next).run P w = (callFunc f (first ++ args ++ cap)).run P w := by
        simp only [Deferred.ofValue, Sem.run_bind, Sem.run_pure, Result.andThen_ok, invoke]
      rw [hrun]
      have hall : VsRel ρ w (first ++ args ++ cap).toList (first' ++ targs ++ cap') := by
        rw [Array.toList_append, Array.toList_append]
        exact (hfirst.append hargs).append hcap
      simp only
      cases hs : C.spec f with
      | some s => exact hspec _ ih hs I hg hall
      | none =>
        simp only
        cases hfu : C.func f with
        | none => trivial
        | some efn =>
          simp only
          cases ha : C.apart f with
          | true => exact happ _ n ih hfu ha I hg hall
          | false =>
            simp only [cond_false]
            rw [callFunc_enter hF hfu]
            obtain ⟨fn, h1, h2, _⟩ := hF.func f efn hfu
            exact .of_calls fun hne => sim_body hC ih hdraw hrange h1 h2 I hg hall hne
    | @yield lw le hL =>
      have hrun : (do let d ← Deferred.ofValue (.func (.yield lw) first cap) args; invoke d.target d.args : Sem Next).run P w = (Instr.yield lw (first ++ args)).run P w := by
        simp only [Deferred.ofValue, Sem.run_bind, Sem.run_pure, Result.andThen_ok, invoke]
      rw [hrun]
      refine sim_round hC ih hdraw hrange I hg hL ?_
      rw [Array.toList_append]
      exact hfirst.append hargs

end Go.E
