/- The plain machine is sound: what it comes to, the model comes to. -/
import Derived.Test.YtmhhajebgolmlaaGreatDoorCodeB
import Derived.RecoverIn
import Derived.Laws.Externs
import Derived.Lib.Index
set_option linter.unusedSimpArgs false
set_option linter.unusedVariables false
namespace Go.E
variable {P : Program} {C : Ctx} {call : E.Call}

/-! ### Values without names -/
def bare (S : Nat → Nat → Prop) : Rn := ⟨fun _ _ => none, S⟩

theorem readAt_spec {h : H} {b off v : Nat} {l : List V} (hr : readAt h b off v = some l) : ∃ cs e g frz, h.get b = some (.cells cs e g frz) ∧ v = cs.length ∧ l = cs.drop off := by
  unfold readAt at hr
  split at hr
  · rename_i cs e g frz hg
    simp only [Bool.cond_eq_ite, nbeq, decide_eq_true_eq] at hr
    split at hr
    · rename_i hv; cases hr; exact ⟨cs, e, g, frz, hg, hv, rfl⟩
    · cases hr
  · cases hr

theorem crel_of {S : Nat → Nat → Prop} {w : World} {r : Nat} : ∀ {vs : List Value} {l : List V} (off : Nat), VsRel (bare S) w vs l → (∀ (j : Nat) (v : Value), vs[j]? = some v → w.cell? ⟨r, off + j, none⟩ = some v ∧ S r (off + j)) → CRel (bare S) w r off l
  | _, _, off, .nil, _ => .nil _ _
  | _, _, off, .cons (v := v) h1 h2, hc => by
    obtain ⟨g1, g2⟩ := hc 0 v rfl
    refine .cons g2 g1 h1 (crel_of (off + 1) h2 fun j x hx => ?_)
    have := hc (j + 1) x (by simpa using hx)
    rwa [show off + (j + 1) = off + 1 + j by omega] at this

mutual
theorem flat_rel {ρ ρ' : Rn} {w : World} {x : Value} {v : V} (hf : flat v = true) (hv : VRel ρ w x v) : VRel ρ' w x v := by
  cases hv with
  | junk => exact .junk _
  | bool => exact .bool _
  | int => exact .int _ _
  | str => exact .str _
  | pnil => exact .pnil
  | snil => exact .snil
  | mnil => exact .mnil
  | nilFunc => exact .nilFunc
  | nilIface => exact .nilIface
  | map => simp [flat] at hf
  | stamp => simp [flat] at hf
  | ptr => simp [flat] at hf
  | sl => simp [flat] at hf
  | pimm => simp [flat] at hf
  | func => simp [flat] at hf
  | simm h1 h2 h3 h4 =>
    rename_i cs
    cases cs with
    | nil => exact .simm (fun h => absurd rfl h) (.nil _ _) h3 h4
    | cons => simp [flat] at hf
  | iface h => exact .iface (flat_rel (by simpa [flat] using hf) h)
  | agg h => exact .agg (flats_rel (by simpa [flat] using hf) h)
  | tup h => exact .tup (flats_rel (by simpa [flat] using hf) h)
theorem flats_rel {ρ ρ' : Rn} {w : World} {xs : List Value} {l : List V} (hf : flats l = true) (hv : VsRel ρ w xs l) : VsRel ρ' w xs l := by
  cases hv with
  | nil => exact .nil
  | cons h1 h2 =>
    simp only [flats, Bool.and_eq_true] at hf
    exact .cons (flat_rel hf.1 h1) (flats_rel hf.2 h2)
end

mutual
theorem closed_rel {ρ : Rn} {S : Nat → Nat → Prop} {w : World} {x : Value} {v : V} (hS : ∀ r o, ρ.S r o → S r o) (hf : closed v = true) (hv : VRel ρ w x v) : VRel (bare S) w x v := by
  cases hv with
  | junk => exact .junk _
  | bool => exact .bool _
  | int => exact .int _ _
  | str => exact .str _
  | pnil => exact .pnil
  | snil => exact .snil
  | mnil => exact .mnil
  | nilFunc => exact .nilFunc
  | nilIface => exact .nilIface
  | map => simp [closed] at hf
  | stamp => simp [closed] at hf
  | ptr => simp [closed] at hf
  | sl => simp [closed] at hf
  | pimm h => exact .pimm (closedc_rel hS (by simpa [closed] using hf) h)
  | func hfn h1 h2 =>
    cases hfn with
    | yield => simp [closed] at hf
    | func f =>
      simp only [closed, Bool.and_eq_true] at hf
      exact .func (.func f) (closeds_rel hS hf.1 h1) (closeds_rel hS hf.2 h2)
  | simm h1 h2 h3 h4 => exact .simm h1 (closedc_rel hS (by simpa [closed] using hf) h2) h3 h4
  | iface h => exact .iface (closed_rel hS (by simpa [closed] using hf) h)
  | agg h => exact .agg (closeds_rel hS (by simpa [closed] using hf) h)
  | tup h => exact .tup (closeds_rel hS (by simpa [closed] using hf) h)
theorem closeds_rel {ρ : Rn} {S : Nat → Nat → Prop} {w : World} {xs : List Value} {l : List V} (hS : ∀ r o, ρ.S r o → S r o) (hf : closeds l = true) (hv : VsRel ρ w xs l) : VsRel (bare S) w xs l := by
  cases hv with
  | nil => exact .nil
  | cons h1 h2 =>
    simp only [closeds, Bool.and_eq_true] at hf
    exact .cons (closed_rel hS hf.1 h1) (closeds_rel hS hf.2 h2)
theorem closedc_rel {ρ : Rn} {S : Nat → Nat → Prop} {w : World} {r o : Nat} {l : List V} (hS : ∀ r o, ρ.S r o → S r o) (hf : closeds l = true) (hv : CRel ρ w r o l) : CRel (bare S) w r o l := by
  cases hv with
  | nil => exact .nil _ _
  | cons h1 h2 h3 h4 =>
    simp only [closeds, Bool.and_eq_true] at hf
    exact .cons (hS _ _ h1) h2 (closed_rel hS hf.1 h3) (closedc_rel hS hf.2 h4)
end

def Names (ρ : Rn) (h : H) (S : Nat → Nat → Prop) (bs : List Nat) : Prop := ∀ b ∈ bs, ∀ cs e g frz r o, h.get b = some (.cells cs e g frz) → ρ.L b cs.length = some r → o < cs.length → S r o

theorem resolve_rel {ρ : Rn} {h : H} {w : World} {S : Nat → Nat → Prop} (I : Inv P All ρ h w) (hS : ∀ r o, ρ.S r o → S r o) : ∀ n,
    (∀ v v' bs x, resolve n h v = some (v', bs) → Names ρ h S bs → VRel ρ w x v → VRel (bare S) w x v') ∧
    (∀ l l' bs, resolves n h l = some (l', bs) → Names ρ h S bs → (∀ xs, VsRel ρ w xs l → VsRel (bare S) w xs l') ∧ (∀ r o, CRel ρ w r o l → CRel (bare S) w r o l') ∧ l'.length = l.length) := by
  intro n
  induction n with
  | zero => exact ⟨fun _ _ _ _ h => by simp [resolve] at h, fun _ _ _ h => by simp [resolves] at h⟩
  | succ n ih =>
    obtain ⟨ihv, ihl⟩ := ih
    -- what is read of a block
    have block : ∀ {b off ver r : Nat} {l l' : List V} {bs : List Nat} (m : Nat), readAt h b off ver = some l → ρ.L b ver = some r → resolves n h (l.take m) = some (l', bs) → Names ρ h S (b :: bs) → CRel (bare S) w r off l' := by
      intro b off ver r l l' bs m hr hL hres hb
      obtain ⟨vs, hvs, hcell⟩ := own_read I trivial hr hL
      obtain ⟨cs, e, g, frz, hg, rfl, rfl⟩ := readAt_spec hr
      obtain ⟨h1, _, h3⟩ := ihl _ _ _ hres (fun b' hb' => hb b' (by simp [hb']))
      have h4 := h1 _ (hvs.take m)
      refine crel_of off h4 fun j v hj => ?_
      rw [List.getElem?_take] at hj
      split at hj
      · refine ⟨hcell j v hj, hb b (by simp) cs e g frz r _ hg hL ?_⟩
        have h5 := hvs.length
        rw [List.length_drop] at h5
        have h6 : j < vs.length := (List.getElem?_eq_some_iff.1 hj).1
        omega
      · cases hj
    refine ⟨fun v v' bs x hr hb hv => ?_, fun l l' bs hr hb => ?_⟩
    · simp only [resolve, Bool.cond_eq_ite] at hr
      split at hr
      · rename_i hcl
        simp only [Option.some.injEq, Prod.mk.injEq] at hr
        obtain ⟨rfl, _⟩ := hr
        exact closed_rel hS hcl hv
      cases hv with
      | junk => simp at hr
      | bool => simp at hr
      | int => simp at hr
      | str => simp at hr
      | pnil => simp at hr
      | snil => simp at hr
      | mnil => simp at hr
      | nilFunc => simp at hr
      | nilIface => simp at hr
      | map => simp at hr
      | stamp => simp at hr
      | ptr hL =>
        simp only [Option.bind_eq_bind, Option.bind_eq_some_iff, Option.pure_def, Option.some.injEq, Prod.mk.injEq, Prod.exists] at hr
        obtain ⟨l, h1, l', bs', h2, rfl, rfl⟩ := hr
        exact .pimm (block l.length h1 hL (by rw [List.take_length]; exact h2) hb)
      | @sl b off len cap sz ver c r ex a hL h2 h3 h4 h5 h6 =>
        simp only [Option.bind_eq_bind, Option.bind_eq_some_iff, Option.pure_def, Option.some.injEq, Prod.mk.injEq, Prod.exists] at hr
        obtain ⟨l, h7, l₁, h8, l', bs', h9, rfl, rfl⟩ := hr
        obtain ⟨rfl, h10⟩ := cut_eq _ _ _ h8
        have hC := block _ h7 hL h9 hb
        refine .simm (fun hne => ?_) ?_ (fun he => ?_) (by omega)
        · rcases h2 with rfl | rfl
          · have h11 := (ihl _ _ _ h9 (fun b' hb' => hb b' (by simp [hb']))).2.2
            have h0 : len = 0 := by omega
            subst h0
            simp at h11
            exact absurd h11 hne
          · rfl
        · rcases h2 with rfl | rfl
          · have h11 := (ihl _ _ _ h9 (fun b' hb' => hb b' (by simp [hb']))).2.2
            have h0 : len = 0 := by omega
            subst h0
            simp at h11
            subst h11
            exact .nil _ _
          · exact hC
        · simp only [Bool.and_eq_true, nbeq, decide_eq_true_eq] at he
          rw [h3 he.1, he.2]
      | pimm h1 =>
        simp only [Option.bind_eq_bind, Option.bind_eq_some_iff, Option.pure_def, Option.some.injEq, Prod.mk.injEq, Prod.exists] at hr
        obtain ⟨l', bs', h2, rfl, rfl⟩ := hr
        exact .pimm ((ihl _ _ _ h2 hb).2.1 _ _ h1)
      | simm h1 h2 h3 h4 =>
        simp only [Option.bind_eq_bind, Option.bind_eq_some_iff, Option.pure_def, Option.some.injEq, Prod.mk.injEq, Prod.exists] at hr
        obtain ⟨l', bs', h5, rfl, rfl⟩ := hr
        obtain ⟨_, h6, h7⟩ := ihl _ _ _ h5 hb
        exact .simm (fun hne => h1 (fun e => hne (List.eq_nil_of_length_eq_zero (by rw [h7, e]; rfl)))) (h6 _ _ h2) h3 h4
      | func hf h1 h2 =>
        cases hf with
        | yield _ => simp at hr
        | func f =>
          simp only [Option.bind_eq_bind, Option.bind_eq_some_iff, Option.pure_def, Option.some.injEq, Prod.mk.injEq, Prod.exists] at hr
          obtain ⟨a', bs₁, h3, b', bs₂, h4, rfl, rfl⟩ := hr
          exact .func (.func f) ((ihl _ _ _ h3 (fun b hb' => hb b (by simp [hb']))).1 _ h1) ((ihl _ _ _ h4 (fun b hb' => hb b (by simp [hb']))).1 _ h2)
      | iface h1 =>
        simp only [Option.bind_eq_bind, Option.bind_eq_some_iff, Option.pure_def, Option.some.injEq, Prod.mk.injEq, Prod.exists] at hr
        obtain ⟨v', bs', h2, rfl, rfl⟩ := hr
        exact .iface (ihv _ _ _ _ h2 hb h1)
      | agg h1 =>
        simp only [Option.bind_eq_bind, Option.bind_eq_some_iff, Option.pure_def, Option.some.injEq, Prod.mk.injEq, Prod.exists] at hr
        obtain ⟨l', bs', h2, rfl, rfl⟩ := hr
        exact .agg ((ihl _ _ _ h2 hb).1 _ h1)
      | tup h1 =>
        simp only [Option.bind_eq_bind, Option.bind_eq_some_iff, Option.pure_def, Option.some.injEq, Prod.mk.injEq, Prod.exists] at hr
        obtain ⟨l', bs', h2, rfl, rfl⟩ := hr
        exact .tup ((ihl _ _ _ h2 hb).1 _ h1)
    · simp only [resolves, Bool.cond_eq_ite] at hr
      split at hr
      · rename_i hcl
        simp only [Option.some.injEq, Prod.mk.injEq] at hr
        obtain ⟨rfl, _⟩ := hr
        exact ⟨fun xs hx => closeds_rel hS hcl hx, fun r o hc => closedc_rel hS hcl hc, rfl⟩
      cases l with
      | nil =>
        simp only [Option.some.injEq, Prod.mk.injEq] at hr
        obtain ⟨rfl, _⟩ := hr
        exact ⟨fun xs hx => by cases hx; exact .nil, fun r o hc => .nil _ _, rfl⟩
      | cons v l =>
        simp only [Option.bind_eq_bind, Option.bind_eq_some_iff, Option.pure_def, Option.some.injEq, Prod.mk.injEq, Prod.exists] at hr
        obtain ⟨v', bs₁, h1, l', bs₂, h2, rfl, rfl⟩ := hr
        have hb1 : Names ρ h S bs₁ := fun b hb' => hb b (by simp [hb'])
        obtain ⟨g1, g2, g3⟩ := ihl _ _ _ h2 (fun b hb' => hb b (by simp [hb']))
        refine ⟨fun xs hx => ?_, fun r o hc => ?_, by simp [g3]⟩
        · cases hx with
          | cons h3 h4 => exact .cons (ihv _ _ _ _ h1 hb1 h3) (g1 _ h4)
        · cases hc with
          | cons h3 h4 h5 h6 => exact .cons (hS _ _ h3) h4 (ihv _ _ _ _ h1 hb1 h5) (g2 _ _ h6)

/-! ### A function over values without memory -/
structure Outcome (S : Nat → Nat → Prop) (w : World) (S' : Nat → Nat → Prop) (w' : World) : Prop where
  keeps : Keeps (bare S) w (bare S') w'
  grows : w.heap.size ≤ w'.heap.size
  new : ∀ r o, S' r o → S r o ∨ w.heap.size ≤ r
  slt : ∀ r o, S' r o → r < w'.heap.size
  old : ∀ r, r < w.heap.size → w'.heap[r]? = w.heap[r]?
  world : w'.os = w.os ∧ w'.output = w.output ∧ w'.tape = w.tape

/-- what a function of values comes to, whatever the rest of the memory -/
def Fact (P : Program) (glob : Nat → List V) (f : Nat) (args : List V) (v : V) : Prop :=
  ∀ {S : Nat → Nat → Prop} {w : World} {vargs : Array Value}, (∀ r o, S r o → r < w.heap.size) → (∀ g, CRel (bare S) w g 0 (glob g)) → VsRel (bare S) w vargs.toList args →
    CallsIn Fence.wide 0 P f vargs w fun e w' => ∃ val S', e = .returned val ∧ Outcome S w S' w' ∧ VRel (bare S') w' val v

structure MemoOk (P : Program) (C : Ctx) : Prop where
  fact : ∀ f args v, C.memo f args = some v → Fact P C.glob f args v
  closed : ∀ g, closeds (C.glob g) = true

theorem inv_new {S : Nat → Nat → Prop} {w : World} (hS : ∀ r o, S r o → r < w.heap.size) : Inv P All (bare S) H.new w where
  dom := fun h => by simp [H.new, H.get, T.get] at h
  fresh := fun _ => rfl
  inj := fun h => by cases h
  lt := fun h => by cases h
  slt := fun h => hS _ _ h
  mark := Nat.le_refl _
  stab := fun _ h => by simp [H.new, H.get, T.get] at h
  vers := fun _ h => by simp [H.new, H.get, T.get] at h
  blk := fun _ h => by simp [H.new, H.get, T.get] at h

theorem fact_of_run (hC : CtxOk P C) (hF : FuncsOk P C) (hcall : CallSim P C call) (hdraw : ∀ n, n ≤ 511 → ∀ wb, DrawSim P C call n wb) (hrange : ∀ n, n ≤ 511 → ∀ wb, RangeSim P C call n wb) {f : Nat} {efn : EFunc} (hf : C.func f = some efn) {fuel : Nat} {args : List V} {v₀ v : V} {h' : H} {bs : List Nat}
    (hrun : body C call fuel efn args H.new = .ok v₀ h') (hres : resolve 1000 h' v₀ = some (v, bs)) : Fact P C.glob f args v := by
  intro S w vargs hS hg ha
  obtain ⟨fn, h1, h2, _⟩ := hF.func f efn hf
  refine (sim_body hC hcall hdraw hrange h1 h2 (fuel := fuel) (inv_new hS) hg ha (by rw [hrun]; simp)).mono fun e w' he => ?_
  rw [hrun] at he
  cases e with
  | panicked => exact he.elim
  | outgrown => exact he.elim
  | returned val =>
    obtain ⟨ρ', hv, I', p⟩ := he
    have hnew : ∀ {b u r : Nat}, ρ'.L b u = some r → w.heap.size ≤ r := fun {b u r} hL => by
      rcases p.newL hL rfl with ⟨_, _, h⟩ | ⟨_, v₀, r₀, h, _⟩
      · exact h
      · cases h
    refine ⟨val, fun r o => ρ'.S r o ∨ (w.heap.size ≤ r ∧ r < w'.heap.size), rfl, ?_, ?_⟩
    · exact {
        keeps := p.keeps.names (fun h => by cases h) (fun h => h) (fun h => .inl (p.keeps.S h))
        grows := p.grows
        new := fun r o h => by
          rcases h with h | h
          · rcases p.newS h with h3 | h3 | ⟨b, v, h3, _⟩
            · exact .inl h3
            · exact .inr h3
            · cases h3
          · exact .inr h.1
        slt := fun r o h => by
          rcases h with h | h
          · exact I'.slt h
          · exact h.2
        old := fun r hr => p.rest hr (fun b v h => by cases h)
        world := p.world }
    · exact (resolve_rel I' (fun r o h => .inl h) 1000).1 _ _ _ _ hres (fun b _ cs e g frz r o _ hL _ => .inr ⟨hnew hL, I'.lt hL⟩) hv

theorem freezeB_get : ∀ (bs : List Nat) (h : H) (b : Nat), (freezeB h bs).get b = match h.get b with
    | some (.cells cs e g frz) => if b ∈ bs then some (.cells cs e g (max frz cs.length)) else some (.cells cs e g frz)
    | o => o
  | [], h, b => by simp only [freezeB]; split <;> simp_all
  | c :: bs, h, b => by
    simp only [freezeB]
    split
    · rename_i cs e g frz hg
      rw [freezeB_get bs, H.get_put]
      by_cases hb : b = c
      · subst hb
        rw [if_pos rfl, hg]
        simp
      · rw [if_neg hb]
        simp only [List.mem_cons, hb, false_or]
    · rename_i hno
      rw [freezeB_get bs]
      by_cases hb : b = c
      · subst hb
        split
        · rename_i hg2; exact absurd hg2 (hno _ _ _ _)
        · rfl
      · simp only [List.mem_cons, hb, false_or]

theorem freezeB_size : ∀ (bs : List Nat) (h : H), (freezeB h bs).size = h.size
  | [], h => rfl
  | c :: bs, h => by
    simp only [freezeB]
    split
    · rw [freezeB_size bs]; rfl
    · exact freezeB_size bs h

theorem freezeB_wr : ∀ (bs : List Nat) (h : H) (b : Nat), b ∈ bs → b < h.mark → (∃ cs e g frz, h.get b = some (.cells cs e g frz)) → b ∈ (freezeB h bs).wr
  | [], h, b, hb, _, _ => by cases hb
  | c :: bs, h, b, hb, hm, hg => by
    simp only [freezeB]
    split
    · rename_i cs e g frz hgc
      by_cases e1 : b = c
      · subst e1
        exact (freezeB_step bs _).told b (by rw [H.wr_put, if_pos hm]; simp)
      · refine freezeB_wr bs _ b ((List.mem_cons.1 hb).resolve_left e1) (by simpa using hm) ?_
        obtain ⟨cs', e', g', frz', h1⟩ := hg
        exact ⟨cs', e', g', frz', by rw [H.get_put, if_neg e1]; exact h1⟩
    · rename_i hno
      have e1 : b ≠ c := fun e => by subst e; obtain ⟨cs', e', g', frz', h1⟩ := hg; exact hno _ _ _ _ h1
      exact freezeB_wr bs h b ((List.mem_cons.1 hb).resolve_left e1) hm hg

theorem apart_sim (hF : FuncsOk P C) (hM : MemoOk P C) (hfact : ∀ {f : Nat} {efn : EFunc}, C.func f = some efn → ∀ {fuel : Nat} {args : List V} {v₀ v : V} {h' : H} {bs : List Nat}, body C call fuel efn args H.new = .ok v₀ h' → resolve 1000 h' v₀ = some (v, bs) → Fact P C.glob f args v)
    {fuel : Nat} : ApartSim P C call fuel := by
  intro f efn hf _ ρ h w args targs I hg hargs
  rw [callFunc_enter hF hf]
  refine .of_calls fun hne => ?_
  unfold runApart at hne ⊢
  cases hr : resolves 1000 h targs with
  | none => rw [hr] at hne; exact absurd rfl hne
  | some p =>
    obtain ⟨targs', bs⟩ := p
    rw [hr] at hne
    simp only at hne ⊢
    generalize hv? : apartValue C call fuel f efn targs' = v? at hne ⊢
    cases v? with
    | none => exact absurd rfl hne
    | some v =>
      have fact : Fact P C.glob f targs' v := by
        unfold apartValue at hv?
        cases hm : C.memo f targs' with
        | some u =>
          rw [hm] at hv?
          cases hv?
          exact hM.fact _ _ _ hm
        | none =>
          rw [hm] at hv?
          simp only at hv?
          cases hb : body C call fuel efn targs' H.new with
          | ok v₀ h' =>
            rw [hb] at hv?
            simp only [Option.map_eq_some_iff, Prod.exists] at hv?
            obtain ⟨v', bs', h1, rfl⟩ := hv?
            exact hfact hf hb h1
          | pan _ _ => rw [hb] at hv?; cases hv?
          | fail => rw [hb] at hv?; cases hv?
      -- the cells that stand fast on the way
      have hnamed : ∀ {b r : Nat}, ρ.L b 0 = some r → True := fun _ => trivial
      let S₁ : Nat → Nat → Prop := fun r o => ρ.S r o ∨ ∃ b, b ∈ bs ∧ ∃ cs e g frz, h.get b = some (.cells cs e g frz) ∧ ρ.L b cs.length = some r ∧ o < cs.length
      have hS₁ : ∀ r o, S₁ r o → r < w.heap.size := fun r o hs => by
        rcases hs with hs | ⟨b, _, cs, e, g, frz, _, hL, _⟩
        · exact I.slt hs
        · exact I.lt hL
      have hrel := ((resolve_rel (S := S₁) I (fun r o h => .inl h) 1000).2 _ _ _ hr (fun b hb cs e g frz r o hg hL ho => .inr ⟨b, hb, cs, e, g, frz, hg, hL, ho⟩)).1 _ hargs
      have hgl : ∀ g, CRel (bare S₁) w g 0 (C.glob g) := fun g => closedc_rel (fun r o h => .inl h) (hM.closed g) (hg g)
      refine (fact hS₁ hgl hrel).mono fun e w' he => ?_
      obtain ⟨val, S', rfl, o, hval⟩ := he
      have hlow : ∀ {b u r : Nat}, ρ.L b u = some r → w'.heap[r]? = w.heap[r]? := fun hL => o.old _ (I.lt hL)
      change CallR P ρ h w (bif flat v then R.ok v h else R.ok v (freezeB h bs)) (.returned val) w'
      cases hfl : flat v with
      | true =>
        show Good P ρ h w v h val w'
        have K : Keeps ρ w ρ w' := o.keeps.names (fun h => h) (fun h => .inl h) (fun h => h)
        refine ⟨ρ, flat_rel hfl hval, ?_, ?_⟩
        · exact { dom := I.dom, fresh := I.fresh, inj := I.inj, lt := fun hL => Nat.lt_of_lt_of_le (I.lt hL) o.grows, slt := fun hS => Nat.lt_of_lt_of_le (I.slt hS) o.grows, mark := I.mark, stab := I.stab, vers := I.vers,
                  blk := fun hX hg hL => BRel.keeps K (hlow hL) (I.blk hX hg hL) }
        · exact { keeps := K, grows := o.grows, size := Nat.le_refl _, mark := rfl, told := fun _ h => h, newL := (fun h1 h2 => by rw [h1] at h2; cases h2), newS := fun h => .inl h, rest := fun hr _ => o.old _ hr, same := fun _ _ => rfl, world := o.world }
      | false =>
        show Good P ρ h w v (freezeB h bs) val w'
        let ρ' : Rn := { L := ρ.L, S := S' }
        have K : Keeps ρ w ρ' w' := o.keeps.names (fun h => h) (fun h => .inl h) (fun h => o.keeps.S (.inl h))
        have hstp := freezeB_step bs h
        refine ⟨ρ', hval.keep (((Keeps.refl (bare S') w').names (fun h => by cases h) (fun h => h) (fun h => h) : Keeps (bare S') w' ρ' w')), ?_, ?_⟩
        · refine { dom := fun hb => hstp.dom I.dom hb, fresh := fun hb => I.fresh (by rw [freezeB_size] at hb; exact hb), inj := I.inj, lt := fun hL => Nat.lt_of_lt_of_le (I.lt hL) o.grows, slt := fun hS => o.slt _ _ hS, mark := by rw [hstp.mark, freezeB_size]; exact I.mark, stab := ?_, vers := ?_, blk := ?_ }
          · intro b blk r oo _ hb hL hS
            rw [freezeB_get] at hb
            have hrl := I.lt (show ρ.L b (ver blk) = some r from hL)
            have hS1 : S₁ r oo := by
              rcases o.new r oo hS with h1 | h1
              · exact h1
              · omega
            split at hb
            · rename_i cs e g frz hgb
              have hblk : ∃ frz', blk = .cells cs e g frz' ∧ (b ∈ bs → frz' = max frz cs.length) ∧ (b ∉ bs → frz' = frz) := by
                split at hb
                · cases hb; exact ⟨_, rfl, fun _ => rfl, fun h => absurd (by assumption) h⟩
                · cases hb; exact ⟨_, rfl, fun h => absurd h (by assumption), fun _ => rfl⟩
              obtain ⟨frz', rfl, hf1, hf2⟩ := hblk
              refine ⟨cs, e, g, frz', rfl, ?_⟩
              rcases hS1 with h1 | ⟨b', hb', cs', e', g', frz'', hg', hL', ho'⟩
              · obtain ⟨cs2, e2, g2, frz2, e3, h3⟩ := I.stab trivial hgb (by exact hL) h1
                cases e3
                by_cases hbb : b ∈ bs
                · rw [hf1 hbb]; omega
                · rw [hf2 hbb]; exact h3
              · have e4 : b' = b := I.inj hL' (show ρ.L b (ver (.cells cs e g frz')) = some r from hL)
                subst e4
                rw [hgb] at hg'
                cases hg'
                rw [hf1 hb']
                omega
            · rename_i hno
              rcases hS1 with h1 | ⟨b', hb', cs', e', g', frz'', hg', hL', ho'⟩
              · exact I.stab trivial hb hL h1
              · have e4 : b' = b := I.inj hL' hL
                subst e4
                exact absurd hg' (hno _ _ _ _)
          · intro b blk u r _ hb hL
            rw [freezeB_get] at hb
            split at hb
            · rename_i cs e g frz hgb
              have := I.vers trivial hgb (show ρ.L b u = some r from hL)
              split at hb <;> (cases hb; exact this)
            · exact I.vers trivial hb hL
          · intro b blk r _ hb hL
            rw [freezeB_get] at hb
            split at hb
            · rename_i cs e g frz hgb
              have hL0 : ρ.L b (ver (.cells cs e g frz)) = some r := by
                split at hb <;> (cases hb; exact hL)
              have h1 := BRel.keeps K (hlow hL0) (I.blk trivial hgb hL0)
              split at hb
              · cases hb
                obtain ⟨c, f, g1, g2, g3, g4, g5⟩ := h1
                refine ⟨c, f, g1, g2, g3, g4, ?_⟩
                rcases g5 with g5 | g5 | g5
                · exact .inl g5
                · exact .inr (.inl (by omega))
                · exact .inr (.inr g5)
              · cases hb; exact h1
            · exact BRel.keeps K (hlow hL) (I.blk trivial hb hL)
        · exact {
            keeps := K
            grows := o.grows
            size := hstp.size
            mark := hstp.mark
            told := hstp.told
            newL := fun h1 h2 => by rw [show ρ.L _ _ = _ from h1] at h2; cases h2
            newS := fun {r oo} hS => by
              rcases o.new r oo hS with h1 | h1
              · rcases h1 with h1 | ⟨b, hb, cs, e, g, frz, hg', hL, ho⟩
                · exact .inl h1
                · refine .inr (.inr ⟨b, _, hL, ?_⟩)
                  rcases Nat.lt_or_ge b h.mark with hm | hm
                  · exact .inl (freezeB_wr bs h b hb hm ⟨_, _, _, _, hg'⟩)
                  · exact .inr hm
              · exact .inr (.inl h1)
            rest := fun hr _ => o.old _ hr
            same := fun hb hn => hstp.same I.mark hb hn
            world := o.world }
end Go.E

namespace Go.E
variable {P : Program} {C : Ctx} {call : E.Call}

/-! ### A block that bears no name -/
theorem Inv.aside {ρ : Rn} {h : H} {w w' : World} {r : Nat} {c c' : Array Value} {e : TypeId} {f f' : Nat × Nat} (I : Inv P All ρ h w) (hs : w'.heap.size = w.heap.size) (ho : ∀ r', r' ≠ r → w'.heap[r']? = w.heap[r']?)
    (hc : w.heap[r]? = some (.cells c e f)) (hc' : w'.heap[r]? = some (.cells c' e f')) (hsz : c'.size = c.size) (hu : ∀ b v, ρ.L b v ≠ some r) (hS : ∀ o, ¬ ρ.S r o) : Keeps ρ w ρ w' ∧ Inv P All ρ h w' := by
  have K : Keeps ρ w ρ w' := {
    L := fun h => h
    S := fun h => h
    cell := fun {r' o x} h1 h2 => by
      have hr : r' ≠ r := fun e => by subst e; exact hS _ h1
      simpa [World.cell?, ho r' hr] using h2
    shape := fun {r' c₁ e₁ f₁} hh => by
      by_cases hr : r' = r
      · subst hr; rw [hc] at hh; cases hh; exact ⟨_, _, hc', hsz⟩
      · exact ⟨_, _, (ho r' hr).trans hh, rfl⟩
    maps := fun {r' es c₁} hh => by
      have hr : r' ≠ r := fun e => by subst e; rw [hc] at hh; cases hh
      exact ⟨_, _, (ho r' hr).trans hh, fun e he => ⟨e, he, rfl, fun _ hk => hk⟩⟩ }
  exact ⟨K, { dom := I.dom, fresh := I.fresh, inj := I.inj, lt := fun hL => by rw [hs]; exact I.lt hL, slt := fun h => by rw [hs]; exact I.slt h, mark := I.mark, stab := I.stab, vers := I.vers,
              blk := fun {b blk r'} hX hg hL => BRel.keeps K (ho r' (fun e => by subst e; exact hu _ _ hL)) (I.blk hX hg hL) }⟩

/-! ### Functions that are not run -/
def NoEscapeOk (P : Program) (f : Nat) : Prop := ∀ (x : Value) (w : World), (callFunc f #[x]).run P w = .ok (.value x) w
def IndexByteOk (P : Program) (f : Nat) : Prop := ∀ (s : ByteArray) (c : Int) (w : World), (callFunc f #[.string s, .int .u8 c]).run P w = .ok (.value (.int .i64 (firstIdx s c.toNat.toUInt8))) w

/-- '(*Reader).Try': its body, operation by operation -/
structure TryShape (P : Program) (f : Nat) where
  fn : Func
  gn : Func
  g : Nat
  T : TypeId
  (o0 o1 o2 o3 o4 o5 q0 q1 q2 q3 : Oper)
  (i0 i1 i2 i3 j0 j1 : Nat)
  rest : Code
  hf : P.funcs[f]? = some fn
  hb : fn.body = some (.seq (.region i0 #[o0] false) (.seq (.region i1 #[o1, o2] false) (.seq (.region i2 #[o3, o4] false) (.seq (.region i3 #[o5] false) .ret))))
  hn : fn.ntmps = 8
  hr : fn.results = #[.cell 4 T]
  hname : (fn.name == "runtime.NumGoroutine") = false
  hg : P.funcs[g]? = some gn
  hgb : gn.body = some (.seq (.region j0 #[q0, q1] false) (.seq (.region j1 #[q2, q3] false) (.cond (.tmp 4) rest .skip)))
  hgn : gn.ntmps = 7
  hgr : gn.results = #[]
  hgname : (gn.name == "runtime.NumGoroutine") = false
  hT : agg? P T = some none
  hsT : size? P T = some 1
  d : o0.dst = some 4 ∧ o1.dst = some 5 ∧ o2.dst = none ∧ o3.dst = some 6 ∧ o4.dst = some 7 ∧ o5.dst = none ∧ q0.dst = some 2 ∧ q1.dst = some 1 ∧ q2.dst = some 3 ∧ q3.dst = some 4
  gu : o0.guard = none ∧ o1.guard = none ∧ o2.guard = none ∧ o3.guard = none ∧ o4.guard = none ∧ o5.guard = none ∧ q0.guard = none ∧ q1.guard = none ∧ q2.guard = none ∧ q3.guard = none
  r0 : ∀ (e : Operand → Value) (w : World), (execOp e o0).run P w = .ok (.value (.pointer (some ⟨w.heap.size, 0, none⟩))) (w.alloc (.cells #[.bool false] T))
  r1 : ∀ (e : Operand → Value) (w : World), (execOp e o1).run P w = .ok (.value (.func (.func g) #[] #[e (.tmp 4)])) w
  r2 : ∀ (e : Operand → Value) (w : World) (x : Value), e (.tmp 5) = .func (.func g) #[] #[x] → (execOp e o2).run P w = .ok (.defer { target := .fn (.func g) #[x], args := #[] }) w
  r3 : ∀ (e : Operand → Value) (w : World), (execOp e o3).run P w = .ok (.value (e (.tmp 1))) w
  r4 : ∀ (e : Operand → Value) (w : World), (execOp e o4).run P w = (do let d ← Deferred.ofValue (e (.tmp 6)) #[]; invoke d.target d.args : Sem Next).run P w
  nd : (∀ c, o0.op ≠ .defer c) ∧ (∀ c, o1.op ≠ .defer c) ∧ (∀ c, o3.op ≠ .defer c) ∧ (∀ c, o4.op ≠ .defer c)
  r2o : ∃ c, o2.op = .defer c
  r5 : o5.op = .store T (.tmp 4) (.const (.bool true))
  k0 : ∀ (e : Operand → Value) (w : World), (execOp e q0).run P w = .ok .recover w
  k1 : ∀ (e : Operand → Value) (w : World), (execOp e q1).run P w = .ok (.value (e (.tmp 2))) w
  k2 : ∀ (e : Operand → Value) (w : World), (execOp e q2).run P w = .ok (.value (e (.tmp 1))) w
  k3 : ∀ (e : Operand → Value) (w : World), e (.tmp 3) = .nilIface → e (.const .nilIface) = .nilIface → (execOp e q3).run P w = .ok (.value (.bool false)) w

theorem TryShape.idle {f : Nat} (t : TryShape P f) (x : Value) (w : World) {n : Nat} : CallsDIn Fence.wide n P t.g #[x] .returning w fun e u' w' => (∃ v, e = .returned v) ∧ u' = .returning ∧ w' = w := by
  obtain ⟨_, _, _, _, _, _, d0, d1, d2, d3⟩ := t.d
  obtain ⟨_, _, _, _, _, _, g0, g1, g2, g3⟩ := t.gu
  refine callsDIn_of_wpSIn t.hg t.hgb trivial fun c₀ cs hu => ?_
  apply wpSIn_seq
  apply wpSIn_region
  rw [t.hgn]
  simp only [List.range, List.range.loop, List.size_toArray, List.length_cons, List.length_nil, Nat.reduceAdd, wpOpsSIn, List.getElem?_toArray, List.getElem?_cons_zero, List.getElem?_cons_succ, Region.wanted, g0, g1, t.k0, t.k1, recoverD, hu, if_true, d0, d1, Exit.thenS]
  refine ⟨fun _ _ => trivial, fun _ _ => trivial, ?_⟩
  apply wpSIn_seq
  apply wpSIn_region
  have hk3 := fun (e : Operand → Value) w h h' => t.k3 e w h h'
  simp only [List.range, List.range.loop, List.size_toArray, List.length_cons, List.length_nil, Nat.reduceAdd, wpOpsSIn, List.getElem?_toArray, List.getElem?_cons_zero, List.getElem?_cons_succ, Region.wanted, g2, g3, t.k2, recoverD, hu, if_true, d2, d3, Exit.thenS]
  refine ⟨fun _ _ => trivial, fun _ _ => trivial, ?_⟩
  rw [hk3 _ _ (by simp [Act.eval, Act.put]) (by simp [Act.eval])]
  simp only []
  refine wpSIn_cond (t := false) (by simp [Act.eval, Act.put]) ?_
  simp only [Bool.false_eq_true, if_false]
  refine wpSIn_of_wpIn rfl (wpIn_skip ?_)
  refine ⟨rfl, .returning, ?_, .tuple #[], ?_, ⟨_, rfl⟩, rfl, rfl⟩
  · cases c₀; simp_all
  · simp [results, t.hgr]

theorem findIdx_first (s : ByteArray) (c : Nat) (hc : c < 256) : (match (bs s).findIdx? (fun n => Nat.beq n c) with | some i => (i : Int) | none => -1) = firstIdx s c.toUInt8 := by
  have key : ∀ (i : Nat) (hi : i < s.size), (s[i]! == c.toUInt8) = Nat.beq ((bs s)[i]'(by rw [bs_length]; exact hi)) c := by
    intro i hi
    rw [getElem!_pos s i hi, nbeq]
    have h1 : (bs s)[i]'(by rw [bs_length]; exact hi) = (s[i]).toNat := by
      simp only [bs, List.getElem_map]
      rfl
    rw [h1, Bool.eq_iff_iff]
    simp only [beq_iff_eq, decide_eq_true_eq]
    constructor
    · intro h; rw [h]; simp; omega
    · intro h; rw [← h]; simp
  unfold firstIdx
  cases h1 : (bs s).findIdx? (fun n => Nat.beq n c) with
  | none =>
    rw [List.findIdx?_eq_none_iff] at h1
    have h2 : (List.range s.size).find? (fun i => s[i]! == c.toUInt8) = none := by
      rw [List.find?_eq_none]
      intro i hi
      rw [List.mem_range] at hi
      rw [key i hi, h1 _ (List.getElem_mem _)]
      simp
    rw [h2]
  | some i =>
    rw [List.findIdx?_eq_some_iff_getElem] at h1
    obtain ⟨h2, h3, h4⟩ := h1
    have hi : i < s.size := by rw [bs_length] at h2; exact h2
    have h5 : (List.range s.size).find? (fun i => s[i]! == c.toUInt8) = some i := by
      rw [List.find?_range_eq_some]
      refine ⟨by rw [key i hi]; exact h3, by simpa using hi, fun j hj => ?_⟩
      have := h4 j hj
      rw [key j (by omega)]
      simpa only [Bool.not_eq_true', Bool.not_eq_true] using this
    rw [h5]

theorem asByte_spec {v : V} {c : Nat} (h : asByte v = some c) : c < 256 ∧ v = .int .u8 c := by
  unfold asByte at h
  split at h
  · rename_i n
    split at h
    · rename_i hn
      cases h
      refine ⟨by omega, ?_⟩
      rw [Int.toNat_of_nonneg hn.1]
    · cases h
  · cases h

/-! ### Try, where nothing goes amiss -/
theorem try_sim {f : Nat} (t : TryShape P f) (hcall : CallSim P C call) {ρ : Rn} {h h' : H} {w : World} {x g : Value} {tg v' : V} (I : Inv P All ρ h w) (hg : Globs ρ w C) (hv : VRel ρ w g tg) (hrun : call tg [] h = .ok v' h') :
    CallsIn Fence.wide 0 P f #[x, g] w (CallR P ρ h w (.ok (.bool true) h')) := by
  obtain ⟨d0, d1, d2, d3, d4, d5, _⟩ := t.d
  obtain ⟨g0, g1, g2, g3, g4, g5, _⟩ := t.gu
  obtain ⟨I1, p1, hu⟩ := I.newUnnamed (.cells #[.bool false] t.T)
  have hN1 : (w.alloc (.cells #[.bool false] t.T)).heap[w.heap.size]? = some (.cells #[.bool false] t.T (0, 0)) := by rw [alloc_heap, if_pos rfl]
  have hsz1 : (w.alloc (.cells #[.bool false] t.T)).heap.size = w.heap.size + 1 := by simp
  have hr0 := fun e => t.r0 e w
  generalize hw1 : w.alloc (.cells #[.bool false] t.T) = w1 at I1 p1 hN1 hr0 hsz1
  have hcl := hcall I1 (hg.keep p1.keeps) (hv.keep p1.keeps) (args := #[]) (targs := []) .nil
  rw [hrun] at hcl
  -- the value that the call comes to
  have hnext : NextRun P ((do let d ← Deferred.ofValue g #[]; invoke d.target d.args : Sem Next).run P w1) (Good P ρ h w1 v' h') (fun _ _ => False) := hcl
  -- an operation that yields a value
  have step : ∀ {ops : Array Oper} {Q : Exit → Act → World → Prop} {o : Oper} {l : List Oper} {a : Act} {w₁ w₂ : World} {v : Value}, o.guard = none → (∀ c, o.op ≠ .defer c) → (execOp a.eval o).run P w₁ = .ok (.value v) w₂ →
      wpListIn Fence.wide 0 P ops Q l (a.put o.dst v) w₂ → wpListIn Fence.wide 0 P ops Q (o :: l) a w₁ := by
    intro ops Q o l a w₁ w₂ v hgd hnd hr hl
    simp only [wpListIn, Region.wanted, hgd, if_true]
    refine wpIn_of_next (r := none) hnd ?_
    rw [hr]
    exact hl
  have hrest : ∀ a : Act, a.tmps.size = 8 → a.eval (.tmp 1) = g → a.eval (.tmp 4) = .pointer (some ⟨w.heap.size, 0, none⟩) → a.defers = [{ target := .fn (.func t.g) #[.pointer (some ⟨w.heap.size, 0, none⟩)], args := #[] }] →
      Code.wpIn Fence.wide 0 P (.seq (.region t.i2 #[t.o3, t.o4] false) (.seq (.region t.i3 #[t.o5] false) .ret)) (bodyPostDIn Fence.wide 0 P t.fn (CallR P ρ h w (.ok (.bool true) h'))) a w1 := by
    intro a hs h1 h4 hd
    refine wpIn_seq (wpIn_region_list ?_)
    refine step g3 t.nd.2.2.1 (t.r3 _ _) ?_
    have hs' : (a.put t.o3.dst (a.eval (.tmp 1))).tmps.size = 8 := by simp [Act.put, d3, hs]
    have h6' : (a.put t.o3.dst (a.eval (.tmp 1))).eval (.tmp 6) = g := by rw [h1]; simp [Act.eval, Act.put, d3, hs]
    have h4' : (a.put t.o3.dst (a.eval (.tmp 1))).eval (.tmp 4) = .pointer (some ⟨w.heap.size, 0, none⟩) := by rw [← h4]; simp [Act.eval, Act.put, d3, hs]
    have hd' : (a.put t.o3.dst (a.eval (.tmp 1))).defers = a.defers := by simp [Act.put, d3]
    generalize a.put t.o3.dst (a.eval (.tmp 1)) = a' at hs' h6' h4' hd'
    simp only [wpListIn, Region.wanted, g4, if_true]
    refine wpIn_of_next (r := none) t.nd.2.2.2 ?_
    rw [t.r4, h6']
    refine hnext.mono (fun v w2 hgood => ?_) (fun _ _ h => h.elim)
    obtain ⟨ρ', hv2, I2, p2⟩ := hgood
    have h4'' : (a'.put t.o4.dst v).eval (.tmp 4) = .pointer (some ⟨w.heap.size, 0, none⟩) := by rw [← h4']; simp [Act.eval, Act.put, d4, hs']
    have hd'' : (a'.put t.o4.dst v).defers = a.defers := by rw [← hd']; simp [Act.put, d4]
    generalize a'.put t.o4.dst v = a'' at h4'' hd''
    -- the named result
    have hu1 : ∀ b v, ρ'.L b v ≠ some w.heap.size := by
      intro b v hL
      cases h3 : ρ.L b v with
      | some r => have := p2.keeps.L h3; rw [hL] at this; cases this; exact hu b v h3
      | none =>
        rcases p2.newL hL h3 with ⟨_, _, h5⟩ | ⟨_, v₀, r₀, h5, h6⟩
        · omega
        · rcases h6 with h6 | h6
          · omega
          · exact hu b v₀ (h6 ▸ h5)
    have hS1 : ∀ o, ¬ ρ'.S w.heap.size o := by
      intro o hS
      rcases p2.newS hS with h3 | h3 | ⟨b, v, h3, _⟩
      · have := I.slt h3; omega
      · omega
      · exact hu b v h3
    have hN2 : w2.heap[w.heap.size]? = some (.cells #[.bool false] t.T (0, 0)) := (p2.rest (by omega) (fun b v h3 => absurd h3 (hu b v))).trans hN1
    have hcell : w2.cell? ⟨w.heap.size, 0, none⟩ = some (.bool false) := by simp [World.cell?, hN2]
    have hstore := run_storeCells_cells (P := P) w.heap.size 0 [.bool true] 0 w2 (fun j hj => by simp at hj; subst hj; simp [hcell]) (fun j hj => by simp [World.frozen?, hN2]) (by simp [Value.oneCell'])
    obtain ⟨k1, k2, k3, k4⟩ := setCells_heap [.bool true] w2 w.heap.size 0 _ _ _ hN2
    simp only [Nat.add_zero] at hstore
    have hlt2 : w.heap.size < w2.heap.size := lt_of_some hN2
    obtain ⟨K3, I3⟩ := I2.aside (w' := w2.setCells w.heap.size 0 [.bool true]) (r := w.heap.size) (c' := #[.bool true]) (f' := (0, 0)) (by rw [k1]; simp) (fun r' hr' => by rw [k1, Array.getElem?_setIfInBounds]; simp [Ne.symm hr']) hN2 (by rw [k1]; simp [hlt2, setVs]) rfl hu1 hS1
    have hN3 : (w2.setCells w.heap.size 0 [.bool true]).heap[w.heap.size]? = some (.cells #[.bool true] t.T (0, 0)) := by rw [k1]; simp [hlt2, setVs]
    have p3 : Post ρ h w ρ' h' (w2.setCells w.heap.size 0 [.bool true]) := {
      keeps := (p1.trans p2).keeps.trans K3
      grows := by rw [k1]; simp; exact (p1.trans p2).grows
      size := (p1.trans p2).size
      mark := (p1.trans p2).mark
      told := (p1.trans p2).told
      newL := (p1.trans p2).newL
      newS := (p1.trans p2).newS
      rest := fun {r} h3 h4 => by
        rw [k1, Array.getElem?_setIfInBounds, if_neg (by omega)]
        exact (p1.trans p2).rest h3 h4
      same := (p1.trans p2).same
      world := ⟨k2.trans (p1.trans p2).world.1, k3.trans (p1.trans p2).world.2.1, k4.trans (p1.trans p2).world.2.2⟩ }
    show Code.wpIn _ _ _ _ _ _ _
    refine wpIn_seq (wpIn_region_list ?_)
    simp only [wpListIn, Region.wanted, g5, if_true]
    refine wpIn_of_next (r := none) (fun c e => by rw [t.r5] at e; cases e) ?_
    have hrun5 : (execOp a''.eval t.o5).run P w2 = .ok .skip (w2.setCells w.heap.size 0 [.bool true]) := by
      unfold execOp
      rw [t.r5]
      simp only [Instr.storeAt, Instr.sureAddr, h4'', storeVar, Sem.run_bind, Sem.run_pure, Result.andThen_ok, size?_run t.hsT]
      simp [Act.eval, Value.cells, hstore]
    rw [hrun5]
    generalize w2.setCells w.heap.size 0 [.bool true] = w3 at *
    show Code.wpIn _ _ _ _ _ _ _
    refine wpIn_ret ?_
    have h4''' : (a''.put t.o5.dst undef).tmps.getD 4 undef = .pointer (some ⟨w.heap.size, 0, none⟩) := by simpa [Act.eval, Act.put, d5] using h4''
    have hd''' : (a''.put t.o5.dst undef).defers = a.defers := by simpa [Act.put, d5] using hd''
    generalize a''.put t.o5.dst undef = a3 at h4''' hd'''
    show LeavesIn _ _ _ _ _ _ _ _ _
    rw [hd''', hd]
    refine leavesIn_cons (by simp) (fun h => by cases h) (f := t.g) (args := #[.pointer (some ⟨w.heap.size, 0, none⟩)]) ?_ (fun _ _ => trivial) ?_
    · simp only [invoke, callFunc, Sem.run_bind, run_program, Result.andThen_ok, t.hg, t.hgname, t.hgb]
      simp
    · have hid := t.idle (.pointer (some ⟨w.heap.size, 0, none⟩)) w3 (n := 0 - 1)
      refine ⟨hid.1, fun c cs hm hroom => ?_⟩
      obtain ⟨e, u', w', fr, ⟨⟨v, rfl⟩, rfl, rfl⟩, rest⟩ := hid.2 c cs hm hroom
      refine ⟨_, _, _, fr, ?_, rest⟩
      show LeavesIn _ _ _ _ _ _ _ _ _
      simp only [settle]
      refine ⟨.bool true, ?_, ρ', .bool true, I3, p3⟩
      simp only [results, t.hr]
      have hload : (loadVar t.T ⟨w.heap.size, 0, none⟩).run P w' = .ok (.bool true) w' := by
        have : w'.cell? ⟨w.heap.size, 0, none⟩ = some (.bool true) := by simp [World.cell?, hN3]
        simp [loadVar, agg?_cell t.hT, this]
      simp [asAddr]
      rw [show a3.tmps[4]?.getD undef = .pointer (some ⟨w.heap.size, 0, none⟩) by rw [← h4''', Array.getD_eq_getD_getElem?]]
      simp [hload]
  refine callsIn_of_wp_defers t.hf t.hb trivial ?_
  refine wpIn_seq (wpIn_region_list ?_)
  rw [t.hn]
  refine step g0 t.nd.1 (hr0 _) ?_
  show Code.wpIn _ _ _ _ _ _ _
  refine wpIn_seq (wpIn_region_list ?_)
  refine step g1 t.nd.2.1 (t.r1 _ _) ?_
  have hdf : ∀ {ops : Array Oper} {Q : Exit → Act → World → Prop} {a : Act} {y : Value}, a.eval (.tmp 5) = .func (.func t.g) #[] #[y] → Q .normal { tmps := a.tmps, defers := { target := .fn (.func t.g) #[y], args := #[] } :: a.defers } w1 →
      wpListIn Fence.wide 0 P ops Q [t.o2] a w1 := by
    intro ops Q a y hy hQ
    simp only [wpListIn, Region.wanted, g2, if_true]
    refine ⟨fun _ _ => trivial, ?_⟩
    rw [show Oper.semAt Fence.wide.round a.eval t.o2 = execOp a.eval t.o2 from rfl, t.r2 _ _ _ hy]
    simp only [Oper.uponIn, d2, Act.put]
    exact hQ
  refine hdf (y := .pointer (some ⟨w.heap.size, 0, none⟩)) (by simp [Act.eval, Act.put, d0, d1]) ?_
  exact hrest _ (by simp [Act.put, d0, d1]) (by simp [Act.eval, Act.put, d0, d1]) (by simp [Act.eval, Act.put, d0, d1]) (by simp [Act.put, d0, d1])

theorem prefix_eq : ∀ (a b : List UInt8), prefixE (a.map (·.toNat)) (b.map (·.toNat)) = a.isPrefixOf b
  | [], _ => by simp [prefixE]
  | _ :: _, [] => by simp [prefixE]
  | x :: a, y :: b => by
    simp only [List.map_cons, prefixE, List.isPrefixOf, prefix_eq a b, nbeq]
    congr 1
    rw [Bool.eq_iff_iff]
    simp [UInt8.toNat_inj]

theorem index_eq (sub : List UInt8) : ∀ s : List UInt8, Lib.index s sub = match indexE (sub.map (·.toNat)) (s.map (·.toNat)) with | some i => (i : Int) | none => -1
  | [] => by
    simp only [List.map_nil, indexE, Lib.index]
    cases sub <;> simp
  | b :: l => by
    have h0 := prefix_eq sub (b :: l)
    simp only [List.map_cons] at h0
    simp only [List.map_cons, indexE, Lib.index, h0, index_eq sub l, Bool.cond_eq_ite]
    split
    · rfl
    · cases indexE (sub.map (·.toNat)) (l.map (·.toNat)) with
      | none => simp
      | some i =>
        have : ((i : Int) == -1) = false := by simp
        simp [this]

/-- stringslite.Index, by its contract; the variable that it reads holds some number -/
structure IndexOk (P : Program) (glob : Nat → List V) (f mx : Nat) : Prop where
  enters : ∀ (args : Array Value) (w : World), (callFunc f args).run P w = .ok (.enter f args) w
  holds : ∃ m, glob mx = [.int .i64 m] ∧ ∀ (s sub : ByteArray) (w : World), s.size < 4294967281 → w.cell? ⟨mx, 0, none⟩ = some (.int .i64 m) →
    CallsIn Fence.wide 0 P f #[.string s, .string sub] w fun e w' => e = .returned (.int .i64 (Lib.index s.data.toList sub.data.toList)) ∧ w' = w

theorem spec_sim (hx : ∀ f mx, C.spec f = some (.index mx) → IndexOk P C.glob f mx) (hcall : CallSim P C call) (hn : ∀ f, C.spec f = some .noEscape → NoEscapeOk P f) (hi : ∀ f, C.spec f = some .indexByteString → IndexByteOk P f) (ht : ∀ f, C.spec f = some .try_ → Nonempty (TryShape P f)) : SpecSim P C call := by
  intro f s hs ρ h w args targs I hg hargs
  generalize hl : args.toList = l at hargs
  cases s with
  | noEscape =>
    cases hargs with
    | nil => trivial
    | cons h1 h2 =>
      cases h2 with
      | cons _ _ => trivial
      | nil =>
        rw [list_one hl, hn f hs]
        exact ⟨ρ, h1, I, Post.refl ρ h w⟩
  | indexByteString =>
    cases hargs with
    | nil => trivial
    | cons h1 h2 =>
      cases h1 <;> try trivial
      cases h2 with
      | nil => trivial
      | cons h3 h4 =>
        cases h4 with
        | cons _ _ => trivial
        | nil =>
          rename_i s vc tc
          simp only [special]
          cases hb : asByte tc with
          | none => trivial
          | some c =>
            obtain ⟨hc, rfl⟩ := asByte_spec hb
            cases h3
            simp only
            rw [list_two hl, hi f hs, Int.toNat_natCast, ← findIdx_first s c hc]
            exact ⟨ρ, .int _ _, I, Post.refl ρ h w⟩
  | index mx =>
    cases hargs with
    | nil => trivial
    | cons h1 h2 =>
      cases h1 <;> try trivial
      cases h2 with
      | nil => trivial
      | cons h3 h4 =>
        cases h3 <;> try trivial
        cases h4 with
        | cons _ _ => trivial
        | nil =>
          rename_i s sub
          simp only [special, nblt, bs_length, Bool.cond_eq_ite, decide_eq_true_eq]
          split
          · rename_i hlt
            obtain ⟨hen, m, hgm, hc⟩ := hx f mx hs
            have hcell : w.cell? ⟨mx, 0, none⟩ = some (.int .i64 m) := by
              have h5 := hg mx
              rw [hgm] at h5
              cases h5 with
              | cons h6 h7 h8 _ => cases h8; exact h7
            rw [list_two hl, hen]
            refine (hc s sub w hlt hcell).mono fun e w' he => ?_
            obtain ⟨rfl, rfl⟩ := he
            refine ⟨ρ, ?_, I, Post.refl ρ h w'⟩
            rw [index_eq]
            exact .int _ _
          · trivial
  | try_ =>
    obtain ⟨t⟩ := ht f hs
    cases hargs with
    | nil => trivial
    | cons h1 h2 =>
      cases h2 with
      | nil => trivial
      | cons h3 h4 =>
        cases h4 with
        | cons _ _ => trivial
        | nil =>
          rename_i x tx g tg
          simp only [special]
          cases hr : call tg [] h with
          | fail => trivial
          | pan _ _ => trivial
          | ok v' h' =>
            simp only
            have henter : (callFunc f args).run P w = .ok (.enter f args) w := by
              simp only [callFunc, Sem.run_bind, run_program, Result.andThen_ok, t.hf, t.hname, t.hb]
              simp
            rw [henter]
            refine .of_calls fun _ => ?_
            rw [list_two hl]
            exact try_sim t hcall I hg h3 hr
end Go.E

namespace Go.E
variable {P : Program} {C : Ctx}

/-- what is asked of the program and of what E is told of it -/
structure Good' (P : Program) (C : Ctx) : Prop where
  ctx : CtxOk P C
  funcs : FuncsOk P C
  mixed : P.follows .mixedOrders = true
  memo : MemoOk P C
  noEscape : ∀ f, C.spec f = some .noEscape → NoEscapeOk P f
  indexByte : ∀ f, C.spec f = some .indexByteString → IndexByteOk P f
  index : ∀ f mx, C.spec f = some (.index mx) → IndexOk P C.glob f mx
  try_ : ∀ f, C.spec f = some .try_ → Nonempty (TryShape P f)

/-- E is sound: whatever a call comes to in E, it comes to under the model. -/
theorem sound (g : Good' P C) : ∀ n, CallSim P C (callN C n) :=
  callN_sim g.ctx g.funcs g.mixed (fun _ hc => spec_sim g.index hc g.noEscape g.indexByte g.try_) (fun n _ hc => apart_sim g.funcs g.memo (fun hf _ _ _ _ _ _ hrun hres =>
    fact_of_run g.ctx g.funcs hc (fun _k hk _wb => draw_sim g.ctx hc (callN_step C n) g.mixed hk) (fun _k hk _wb => sim_range g.funcs hc hk) hf hrun hres))

/-- a fact, by a run of E -/
theorem fact_by_run (g : Good' P C) {f : Nat} {efn : EFunc} (hf : C.func f = some efn) {n fuel : Nat} {args : List V} {v₀ v : V} {h' : H} {bs : List Nat} (hrun : body C (callN C n) fuel efn args H.new = .ok v₀ h') (hres : resolve 1000 h' v₀ = some (v, bs)) : Fact P C.glob f args v :=
  fact_of_run g.ctx g.funcs (sound g n) (fun _k hk _wb => draw_sim g.ctx (sound g n) (callN_step C n) g.mixed hk) (fun _k hk _wb => sim_range g.funcs (sound g n) hk) hf hrun hres

end Go.E
