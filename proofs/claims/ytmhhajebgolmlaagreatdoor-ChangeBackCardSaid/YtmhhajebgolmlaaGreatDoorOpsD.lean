/- The plain machine's operations, held against the model's, last part. -/
import Derived.Test.YtmhhajebgolmlaaGreatDoorOpsC
import Derived.Laws.StructEq
import Derived.MapKept
set_option linter.unusedSimpArgs false
set_option linter.unusedVariables false
namespace Go.E
variable {P : Program} {X : Nat → Prop} {ρ : Rn} {h : H} {w : World}

/-! ### Comparing -/
theorem eqFields_run {d k n : Nat} (ih : ∀ t q, eqOf P n t = some q → ∀ d, n ≤ d → ∀ k x y tx ty b, VRel ρ w x tx → VRel ρ w y ty → eqV k q tx ty = some b → (Op.equalIn d t x y).run P w = .ok b w) (hd : n ≤ d) {xs ys : Array Value} {cx cy : List V} (hx : VsRel ρ w xs.toList cx) (hy : VsRel ρ w ys.toList cy) :
    ∀ (fs : List Field) (l : List (Nat × Option Nat × Eq')) (b : Bool), (∀ f ∈ fs, f.name ≠ "_") → (fs.mapM fun (f : Field) => do pure (f.offset, ← agg? P f.type, ← eqOf P n f.type)) = some l → eqV.go k l cx cy = some b →
      (Op.eqFields d xs ys fs).run P w = .ok b w
  | [], l, b, _, hl, hb => by
    simp at hl
    subst hl
    simp only [eqV.go, Option.some.injEq] at hb
    subst hb
    simp [Op.eqFields]
  | f :: fs, l, b, hn, hl, hb => by
    simp only [List.mapM_cons, Option.bind_eq_bind, Option.pure_def, Option.bind_eq_some_iff, Option.some.injEq] at hl
    obtain ⟨p, ⟨g, hg, q, hq, rfl⟩, l', hl', rfl⟩ := hl
    simp only [eqV.go] at hb
    split at hb
    · rename_i a c ha hc
      obtain ⟨va, ra, ea⟩ := part_rel hg ha hx
      obtain ⟨vc, rc, ec⟩ := part_rel hg hc hy
      split at hb
      · rename_i he
        have h1 := ih _ _ hq d hd _ _ _ _ _ _ ea ec he
        have h2 := eqFields_run ih hd hx hy fs l' b (fun f hf => hn f (by simp [hf])) hl' hb
        simp [Op.eqFields, hn f (by simp), ra, rc, h1, h2]
      · rename_i he
        have h1 := ih _ _ hq d hd _ _ _ _ _ _ ea ec he
        cases hb
        simp [Op.eqFields, hn f (by simp), ra, rc, h1]
      · cases hb
    · cases hb

theorem eq_nil {k d : Nat} {t : TypeId} {x y : Value} {tx ty : V} {b : Bool} {q : Eq'} (hx : VRel ρ w x tx) (hy : VRel ρ w y ty) (hb : eqV (k + 1) q tx ty = some b)
    (hq : (q = .nilSl ∧ ∃ e, P.underlying t = some (.slice e)) ∨ (q = .nilMap ∧ ∃ a e, P.underlying t = some (.map a e)) ∨ (q = .nilFn ∧ ∃ a c e, P.underlying t = some (.func a c e)) ∨ (q = .iface ∧ ∃ ms, P.underlying t = some (.interface ms))) :
    (Op.equalIn (d + 1) t x y).run P w = .ok b w := by
  rcases hq with ⟨rfl, e, hu⟩ | ⟨rfl, a, e, hu⟩ | ⟨rfl, a, c, e, hu⟩ | ⟨rfl, ms, hu⟩
  · unfold Op.equalIn
    simp only [Sem.run_bind, run_underlying hu, Result.andThen_ok]
    cases hx <;> (try (simp [eqV] at hb; done)) <;> cases hy <;> simp only [eqV, Option.some.injEq, reduceCtorEq] at hb <;> subst hb <;> simp
  · unfold Op.equalIn
    simp only [Sem.run_bind, run_underlying hu, Result.andThen_ok]
    cases hx <;> (try (simp [eqV] at hb; done)) <;> cases hy <;> simp only [eqV, Option.some.injEq, reduceCtorEq] at hb <;> subst hb <;> simp
  · unfold Op.equalIn
    simp only [Sem.run_bind, run_underlying hu, Result.andThen_ok]
    cases hx <;> (try (simp [eqV] at hb; done)) <;> cases hy <;> simp only [eqV, Option.some.injEq, reduceCtorEq] at hb <;> subst hb <;> simp
  · unfold Op.equalIn
    simp only [Sem.run_bind, run_underlying hu, Result.andThen_ok]
    cases hx <;> (try (simp [eqV] at hb; done)) <;> cases hy <;> simp only [eqV, Option.some.injEq, reduceCtorEq] at hb <;> subst hb <;> simp

theorem eq_ptr {k d m : Nat} {t e : TypeId} {x y : Value} {tx ty : V} {b : Bool} (hu : P.underlying t = some (.pointer e)) (hm : size? P e = some m) (hm0 : m ≠ 0) (hx : VRel ρ w x tx) (hy : VRel ρ w y ty) (hb : eqV (k + 1) .ptr tx ty = some b) :
    (Op.equalIn (d + 1) t x y).run P w = .ok b w := by
  unfold Op.equalIn
  simp only [Sem.run_bind, run_underlying hu, Result.andThen_ok]
  cases hx <;> (try (simp [eqV] at hb; done)) <;> cases hy <;> simp only [eqV, Option.some.injEq, reduceCtorEq] at hb
  · subst hb; simp
  · subst hb; simp
  · subst hb; simp
  · rename_i h1 _ _ _ h2
    split at hb
    · rename_i hbu
      obtain ⟨rfl, rfl⟩ := hbu
      rename_i h1 _ _
      rw [h1] at h2
      cases h2
      cases hb
      simp [size?_run hm, hm0, sameAddr]
      rw [Bool.eq_iff_iff]
      simp
    · cases hb

theorem eq_prim {k d : Nat} {t : TypeId} {x y : Value} {tx ty : V} {b : Bool} {q : Eq'} (hx : VRel ρ w x tx) (hy : VRel ρ w y ty) (hb : eqV (k + 1) q tx ty = some b)
    (hq : (q = .bool ∧ P.underlying t = some .bool) ∨ (q = .int ∧ ∃ k, P.underlying t = some (.int k)) ∨ (q = .str ∧ P.underlying t = some .string)) :
    (Op.equalIn (d + 1) t x y).run P w = .ok b w := by
  rcases hq with ⟨rfl, hu⟩ | ⟨rfl, _, hu⟩ | ⟨rfl, hu⟩
  · cases hx <;> (try (simp [eqV] at hb; done)) <;> cases hy <;> simp only [eqV, Option.some.injEq, reduceCtorEq] at hb
    subst hb
    exact run_equalIn_bool' w d t _ _ hu
  · cases hx <;> (try (simp [eqV] at hb; done)) <;> cases hy <;> simp only [eqV, reduceCtorEq] at hb
    split at hb
    · rename_i hk
      subst hk
      cases hb
      exact run_equalIn_int w d t _ _ _ _ hu
    · cases hb
  · cases hx <;> (try (simp [eqV] at hb; done)) <;> cases hy <;> simp only [eqV, Option.some.injEq, reduceCtorEq] at hb
    subst hb
    rw [← bs_beq]
    exact run_equalIn_string w d t _ _ hu

theorem eq_run : ∀ (n : Nat) (t : TypeId) (q : Eq'), eqOf P n t = some q → ∀ d, n ≤ d → ∀ k x y tx ty b, VRel ρ w x tx → VRel ρ w y ty → eqV k q tx ty = some b → (Op.equalIn d t x y).run P w = .ok b w
  | 0, t, q, h => by simp [eqOf] at h
  | n + 1, t, q, h => by
    intro d hd k x y tx ty b hx hy hb
    obtain ⟨d, rfl⟩ : ∃ m, d = m + 1 := ⟨d - 1, by omega⟩
    cases k with
    | zero => simp [eqV] at hb
    | succ k =>
    simp only [eqOf] at h
    split at h
    · rename_i hu; cases h; exact eq_prim hx hy hb (.inl ⟨rfl, hu⟩)
    · rename_i hu; cases h; exact eq_prim hx hy hb (.inr (.inl ⟨rfl, _, hu⟩))
    · rename_i hu; cases h; exact eq_prim hx hy hb (.inr (.inr ⟨rfl, hu⟩))
    · rename_i e hu
      split at h
      · cases h
      · cases h
      · rename_i hs1 hs2
        cases h
        obtain ⟨m, hm⟩ := Option.ne_none_iff_exists'.1 hs2
        exact eq_ptr hu hm (fun e => hs1 (by rw [hm, e])) hx hy hb
    · rename_i e hu; cases h; exact eq_nil hx hy hb (.inl ⟨rfl, _, hu⟩)
    · rename_i a e hu; cases h; exact eq_nil hx hy hb (.inr (.inl ⟨rfl, _, _, hu⟩))
    · rename_i a c e hu; cases h; exact eq_nil hx hy hb (.inr (.inr (.inl ⟨rfl, _, _, _, hu⟩)))
    · rename_i ms hu; cases h; exact eq_nil hx hy hb (.inr (.inr (.inr ⟨rfl, _, hu⟩)))
    · rename_i fs hu
      split at h
      · cases h
      · rename_i hno
        obtain ⟨l, hl, rfl⟩ := Option.map_eq_some_iff.1 h
        simp only [Bool.or_eq_true, not_or, Bool.not_eq_true] at hno
        have hfo : P.fieldsOf t = fs := by simp [Program.fieldsOf, hu]
        cases hx <;> (try (simp [eqV] at hb; done)) <;> cases hy <;> simp only [eqV, reduceCtorEq] at hb
        rename_i h1 _ _ h2
        rw [run_equalIn_struct w d t _ _ (by rw [hfo]; exact hu) hno.2, hfo]
        refine eqFields_run (fun t q => eq_run n t q) (by omega) h1 h2 fs.toList l b (fun f hf e => ?_) hl hb
        have := hno.1
        simp only [Array.any_eq_false] at this
        obtain ⟨i, hi, rfl⟩ := Array.mem_iff_getElem.1 (Array.mem_toList_iff.1 hf)
        exact this i hi (by rw [e]; rfl)
    · cases h

theorem sim_eql (I : Inv P X ρ h w) {op : BinOp} {neg : Bool} {t : TypeId} {d : TypeDesc} {x y : Operand} {a b : Value} {ta tb : V} {e : Eq'} (ha : VRel ρ w a ta) (hb : VRel ρ w b tb) (he : eqOf P 10 t = some e)
    (hop : op = .eql ∧ neg = false ∨ op = .neq ∧ neg = true) (hu : P.underlying t = some d) (hni : ∀ k, d ≠ .int k) (hns : d ≠ .string)
    (hfit : eqFits P d t x y = true) :
    SimS P X ρ h w ((do eqGuard op t x y a b; binOp op t a b : Sem Value).run P w) (o2r ((eqV 20 e ta tb).map fun b => .bool (if neg then !b else b)) h) := by
  refine SimS.o2r fun tv ht => ?_
  obtain ⟨r, hr, rfl⟩ := Option.map_eq_some_iff.1 ht
  have hrun : (Op.equal t a b).run P w = .ok r w := eq_run 10 t e he 10000 (by omega) 20 a b ta tb r ha hb hr
  unfold eqFits at hfit
  have hguard : (eqGuard op t x y a b).run P w = .ok () w := by
    unfold eqOf at he
    rw [hu] at he
    cases d <;> simp only [reduceCtorEq] at he
    all_goals first
      | exact absurd rfl (hni _)
      | exact absurd rfl hns
      | skip
    case bool => cases he; cases ha <;> (try (simp [eqV] at hr; done)) <;> cases hb <;> simp [eqV] at hr <;> simp [eqGuard]
    case pointer => split at he <;> cases he; cases ha <;> (try (simp [eqV] at hr; done)) <;> cases hb <;> simp [eqV] at hr <;> simp [eqGuard]
    case slice => cases he; cases ha <;> (try (simp [eqV] at hr; done)) <;> cases hb <;> simp [eqV] at hr <;> simp [eqGuard]
    case map => cases he; cases ha <;> (try (simp [eqV] at hr; done)) <;> cases hb <;> simp [eqV] at hr <;> simp [eqGuard]
    case func => cases he; cases ha <;> (try (simp [eqV] at hr; done)) <;> cases hb <;> simp [eqV] at hr <;> simp [eqGuard]
    case interface =>
      cases he
      cases ha <;> (try (simp [eqV] at hr; done)) <;> cases hb <;> simp [eqV] at hr <;> simp [eqGuard]
      cases x <;> cases y <;> simp at hfit ⊢
    case struct fs =>
      simp only [Bool.not_eq_true'] at hfit
      split at he
      · cases he
      · obtain ⟨l, _, rfl⟩ := Option.map_eq_some_iff.1 he
        cases ha <;> (try (simp [eqV] at hr; done)) <;> cases hb <;> (try (simp [eqV] at hr; done))
        exact run_eqGuard_agg w op t x y _ _ hfit
  have hbin : (binOp op t a b).run P w = .ok (.bool (if neg then !r else r)) w := by
    unfold eqOf at he
    rw [hu] at he
    have key : (∀ k n, a ≠ .int k n) → (∀ s, a ≠ .string s) → (∀ k n, a ≠ .float k n) → (∀ k n m, a ≠ .complex k n m) → (binOp op t a b).run P w = .ok (.bool (if neg then !r else r)) w := by
      intro h1 h2 h3 h4
      rcases hop with ⟨rfl, rfl⟩ | ⟨rfl, rfl⟩
      · have : binOp .eql t a b = (do pure (.bool (← Op.equal t a b)) : Sem Value) := by
          unfold binOp
          split <;> first | rfl | simp_all
        rw [this]
        simp [hrun]
      · have : binOp .neq t a b = (do pure (.bool (!(← Op.equal t a b))) : Sem Value) := by
          unfold binOp
          split <;> first | rfl | simp_all
        rw [this]
        simp [hrun]
    cases d <;> simp only [reduceCtorEq] at he
    all_goals first
      | exact absurd rfl (hni _)
      | exact absurd rfl hns
      | skip
    case bool => cases he; cases ha <;> (try (simp [eqV] at hr; done)) <;> exact key (by simp) (by simp) (by simp) (by simp)
    case pointer => split at he <;> cases he; cases ha <;> (try (simp [eqV] at hr; done)) <;> exact key (by simp) (by simp) (by simp) (by simp)
    case slice => cases he; cases ha <;> (try (simp [eqV] at hr; done)) <;> exact key (by simp) (by simp) (by simp) (by simp)
    case map => cases he; cases ha <;> (try (simp [eqV] at hr; done)) <;> exact key (by simp) (by simp) (by simp) (by simp)
    case func => cases he; cases ha <;> (try (simp [eqV] at hr; done)) <;> exact key (by simp) (by simp) (by simp) (by simp)
    case interface => cases he; cases ha <;> (try (simp [eqV] at hr; done)) <;> exact key (by simp) (by simp) (by simp) (by simp)
    case struct fs =>
      split at he
      · cases he
      · obtain ⟨l, _, rfl⟩ := Option.map_eq_some_iff.1 he
        cases ha <;> (try (simp [eqV] at hr; done)) <;> exact key (by simp) (by simp) (by simp) (by simp)
  exact .pure I (v := .bool (if neg then !r else r)) (by simp [hguard, hbin]) (.bool _)

end Go.E

namespace Go.E
variable {P : Program} {X : Nat → Prop} {ρ : Rn} {h : H} {w : World}

/-! ### Keys -/
mutual
theorem beqV_eq : ∀ (a b : V), beqV a b = true → a = b
  | .bool a, b, h => by cases b <;> simp [beqV] at h; rw [h]
  | .int k a, b, h => by
    cases b <;> simp [beqV] at h
    rw [h.1, h.2]
  | .str a, b, h => by cases b <;> simp [beqV] at h; rw [h]
  | .agg a, b, h => by
    cases b <;> simp [beqV] at h
    rw [beqL_eq _ _ h]
  | .junk, b, h => by simp [beqV] at h
  | .pnil, b, h => by simp [beqV] at h
  | .ptr .., b, h => by simp [beqV] at h
  | .pimm _, b, h => by simp [beqV] at h
  | .snil, b, h => by simp [beqV] at h
  | .sl .., b, h => by simp [beqV] at h
  | .simm .., b, h => by simp [beqV] at h
  | .mnil, b, h => by simp [beqV] at h
  | .map _, b, h => by simp [beqV] at h
  | .stamp .., b, h => by simp [beqV] at h
  | .func .., b, h => by simp [beqV] at h
  | .nilFunc, b, h => by simp [beqV] at h
  | .iface .., b, h => by simp [beqV] at h
  | .nilIface, b, h => by simp [beqV] at h
  | .tup _, b, h => by simp [beqV] at h
theorem beqL_eq : ∀ (a b : List V), beqL a b = true → a = b
  | [], b, h => by cases b <;> simp [beqL] at h; rfl
  | x :: a, b, h => by
    cases b with
    | nil => simp [beqL] at h
    | cons y b =>
      simp only [beqL, Bool.and_eq_true] at h
      rw [beqV_eq _ _ h.1, beqL_eq _ _ h.2]
end

theorem KRel.str_inv : ∀ {y : Value} {t : V}, KRel y t → ∀ l, t = .str l → ∃ s, y = .string s ∧ bs s = l := by
  intro y t h l e
  cases h <;> cases e
  exact ⟨_, rfl, rfl⟩

mutual
theorem KRel.inj : ∀ {x y : Value} {a : V}, KRel x a → KRel y a → x = y
  | _, _, _, .bool _, h => by cases h; rfl
  | _, _, _, .int _ _, h => by cases h; rfl
  | _, _, _, .str _, h => by
    obtain ⟨s, rfl, e⟩ := h.str_inv _ rfl
    rw [bs_inj e]
  | _, _, _, .agg h1, h => by
    cases h with
    | agg h2 => exact congrArg Value.agg (Array.ext' (KsRel.inj h1 h2))
theorem KsRel.inj : ∀ {x y : List Value} {a : List V}, KsRel x a → KsRel y a → x = y
  | _, _, _, .nil, h => by cases h; rfl
  | _, _, _, .cons h1 h2, h => by
    cases h with
    | cons h3 h4 => rw [KRel.inj h1 h3, KsRel.inj h2 h4]
end

mutual
theorem KRel.val : ∀ {x : Value} {a : V}, KRel x a → VRel ρ w x a
  | _, _, .bool b => .bool b
  | _, _, .int k n => .int k n
  | _, _, .str s => .str s
  | _, _, .agg h => .agg (KsRel.vals h)
theorem KsRel.vals : ∀ {x : List Value} {a : List V}, KsRel x a → VsRel ρ w x a
  | _, _, .nil => .nil
  | _, _, .cons h1 h2 => .cons (KRel.val h1) (KsRel.vals h2)
end

theorem prim_key {x : Value} {a : V} (h : VRel ρ w x a) (ha : isPrim a = true) : KRel x a := by
  cases h <;> simp [isPrim] at ha
  · exact .bool _
  · exact .int _ _
  · exact .str _

theorem prims_key : ∀ {x : List Value} {a : List V}, VsRel ρ w x a → a.all isPrim = true → KsRel x a
  | _, _, .nil, _ => .nil
  | _, _, .cons h1 h2, ha => by
    simp only [List.all_cons, Bool.and_eq_true] at ha
    exact .cons (prim_key h1 ha.1) (prims_key h2 ha.2)

theorem key_of {x : Value} {a : V} (h : VRel ρ w x a) (ha : isKey a = true) : KRel x a := by
  cases h <;> simp only [isKey, isPrim, Bool.false_eq_true] at ha
  · exact .bool _
  · exact .int _ _
  · exact .str _
  · rename_i hs; exact .agg (prims_key hs ha)

theorem same_prims : ∀ {x : List Value} {a : List V}, KsRel x a → a.all isPrim = true → ((x.zip x).all fun (p : Value × Value) => Instr.sameBits 9999 p.1 p.2) = true
  | _, _, .nil, _ => rfl
  | _, _, .cons h1 h2, ha => by
    simp only [List.all_cons, Bool.and_eq_true] at ha
    rw [List.zip_cons_cons, List.all_cons, same_prims h2 ha.2, Bool.and_true]
    cases h1 <;> simp [isPrim] at ha <;> simp [Instr.sameBits, beq_toListBytes]

theorem same_key {x : Value} {a : V} (h : KRel x a) (ha : isKey a = true) : Instr.sameBits 10000 x x = true := by
  cases h <;> simp only [isKey, isPrim] at ha
  · simp [Instr.sameBits]
  · simp [Instr.sameBits]
  · simp [Instr.sameBits, beq_toListBytes]
  · rename_i hs
    have := same_prims hs ha
    rw [Instr.sameBits]
    simp only [beq_self_eq_true, Bool.true_and]
    exact this

theorem keyThatStays_run {x : Value} {a : V} (h : KRel x a) (ha : isKey a = true) : (Instr.keyThatStays x x).run P w = .ok x w := by
  simp [Instr.keyThatStays, same_key h ha]

/-- the parts of a key, one by one -/
theorem checkFields_run {em : Bool} {d k n : Nat} (ih : ∀ t q, eqOf P n t = some q → ∀ d, n ≤ d → ∀ k x tx, q.isKey = true → VRel ρ w x tx → eqV k q tx tx = some true → (Instr.checkKey em d t x).run P w = .ok () w) (hd : n ≤ d) {xs : Array Value} {cx : List V} (hx : VsRel ρ w xs.toList cx) :
    ∀ (fs : List Field) (l : List (Nat × Option Nat × Eq')), (fs.mapM fun (f : Field) => do pure (f.offset, ← agg? P f.type, ← eqOf P n f.type)) = some l → Eq'.areKeys l = true → eqV.go k l cx cx = some true →
      (do for f in fs do if f.name ≠ "_" then Instr.checkKey em d f.type (← part f.type xs f.offset) : Sem Unit).run P w = .ok () w
  | [], l, hl, _, hb => by simp
  | f :: fs, l, hl, hk, hb => by
    simp only [List.mapM_cons, Option.bind_eq_bind, Option.pure_def, Option.bind_eq_some_iff, Option.some.injEq] at hl
    obtain ⟨p, ⟨g, hg, q, hq, rfl⟩, l', hl', rfl⟩ := hl
    simp only [Eq'.areKeys, Bool.and_eq_true] at hk
    simp only [eqV.go] at hb
    split at hb
    · rename_i a c ha hc
      rw [ha] at hc
      cases hc
      obtain ⟨va, ra, ea⟩ := part_rel hg ha hx
      split at hb
      · rename_i he
        have h1 := ih _ _ hq d hd _ _ _ hk.1 ea he
        have h2 := checkFields_run ih hd hx fs l' hl' hk.2 hb
        rw [List.forIn_cons]
        by_cases hn : f.name = "_"
        · simpa [hn] using h2
        · simpa [hn, ra, h1] using h2
      · cases hb
      · cases hb
    · cases hb

theorem check_run {em : Bool} : ∀ (n : Nat) (t : TypeId) (q : Eq'), eqOf P n t = some q → ∀ d, n ≤ d → ∀ k x tx, q.isKey = true → VRel ρ w x tx → eqV k q tx tx = some true → (Instr.checkKey em d t x).run P w = .ok () w
  | 0, t, q, h => by simp [eqOf] at h
  | n + 1, t, q, h => by
    intro d hd k x tx hk hx hb
    obtain ⟨d, rfl⟩ : ∃ m, d = m + 1 := ⟨d - 1, by omega⟩
    cases k with
    | zero => simp [eqV] at hb
    | succ k =>
    simp only [eqOf] at h
    unfold Instr.checkKey
    split at h
    · rename_i hu; simp [run_underlying hu]
    · rename_i hu; simp [run_underlying hu]
    · rename_i hu; simp [run_underlying hu]
    · split at h <;> cases h
      cases hk
    · cases h; cases hk
    · cases h; cases hk
    · cases h; cases hk
    · cases h; cases hk
    · rename_i fs hu
      split at h
      · cases h
      · obtain ⟨l, hl, rfl⟩ := Option.map_eq_some_iff.1 h
        cases hx <;> (try (simp [eqV] at hb; done))
        rename_i cs cx hcs
        simp only [eqV] at hb
        simp only [Sem.run_bind, run_underlying hu, Result.andThen_ok]
        rw [← Array.forIn_toList]
        have := checkFields_run (fun t q => check_run (em := em) n t q) (d := d) (by omega) hcs fs.toList l hl hk hb
        simp only [ne_eq, ite_not] at this ⊢
        first | (simp at this ⊢; rw [this]; rfl) | (simp at this ⊢; rw [this]; simp)
    · cases h

end Go.E

namespace Go.E
variable {P : Program} {X : Nat → Prop} {ρ : Rn} {h : H} {w : World}

/-! ### Entries -/
def ERow (ρ : Rn) (w : World) (e : MapEntry) (p : V × V) : Prop := KRel e.key p.1 ∧ VRel ρ w e.val p.2

theorem keyOf_eq {t : TypeId} {q : Eq'} (h : keyOf P t = some q) : eqOf P 10 t = some q ∧ q.isKey = true := Option.filter_eq_some_iff.1 h

theorem keyOk_spec {q : Eq'} {k : V} (h : keyOk q k = true) : isKey k = true ∧ eqV 12 q k k = some true ∧ beqV k k = true := by
  simp only [keyOk, Bool.and_eq_true, keq] at h
  obtain ⟨h1, h2⟩ := h
  cases he : eqV 12 q k k with
  | none => simp [he] at h2
  | some t =>
    simp only [he, Bool.cond_eq_ite] at h2
    by_cases ht : (t == beqV k k) = true
    · simp only [ht, if_true] at h2
      subst h2
      simp at ht
      exact ⟨h1, rfl, ht⟩
    · simp [ht] at h2

theorem keq_spec {q : Eq'} {a b : V} {t : Bool} (h : keq q a b = some t) : eqV 12 q a b = some t ∧ beqV a b = t := by
  unfold keq at h
  split at h
  · rename_i r he
    simp only [Bool.cond_eq_ite] at h
    split at h
    · rename_i hh
      cases h
      exact ⟨he, by simpa using (eq_of_beq hh).symm⟩
    · cases h
  · cases h

theorem sameNow_run {t : TypeId} {d : TypeDesc} (hu : P.underlying t = some d) {x y : Value} {b : Bool} (h : Instr.sameNow d x y = some b) : (Op.equal t x y).run P w = .ok b w := by
  unfold Instr.sameNow at h
  split at h
  · split at h
    · rename_i hk
      subst hk
      cases h
      exact run_equalIn_int w 9999 t _ _ _ _ hu
    · cases h
  · cases h
    rw [beq_toListBytes]
    exact run_equalIn_string w 9999 t _ _ hu
  · cases h
    exact run_equalIn_bool' w 9999 t _ _ hu
  · cases h

theorem findNow_run {t : TypeId} {d : TypeDesc} (hu : P.underlying t = some d) {k : Value} : ∀ (l : List MapEntry) (i : Nat) (r : Option (Nat × Value)), Instr.findNow d k l i = some r → (Instr.findAsking t k l i).run P w = .ok r w
  | [], i, r, h => by
    simp only [Instr.findNow, Option.some.injEq] at h
    subst h
    simp [Instr.findAsking]
  | e :: l, i, r, h => by
    simp only [Instr.findNow] at h
    split at h
    · rename_i hs
      cases h
      simp [Instr.findAsking, sameNow_run hu hs]
    · rename_i hs
      simp [Instr.findAsking, sameNow_run hu hs, findNow_run hu l (i + 1) r h]
    · cases h

theorem findKey_run {t : TypeId} {d : TypeDesc} (hu : P.underlying t = some d) {k : Value} {l : List MapEntry} {r : Option (Nat × Value)} (h : (Instr.findAsking t k l).run P w = .ok r w) : (Instr.findKey t k l).run P w = .ok r w := by
  cases hn : Instr.findNow d k l 0 with
  | none => simp [Instr.findKey, run_underlying hu, hn, h]
  | some r' =>
    have := findNow_run (w := w) hu l 0 r' hn
    rw [h] at this
    cases this
    simp [Instr.findKey, run_underlying hu, hn]

theorem find_run {t : TypeId} {q : Eq'} (hq : eqOf P 10 t = some q) {kv : Value} {k : V} (hk : VRel ρ w kv k) : ∀ (l : List MapEntry) (es : List (V × V)) (i : Nat) (r : Option V), All2 (ERow ρ w) l es → findE q k es = some r →
    match r with
    | none => (Instr.findAsking t kv l i).run P w = .ok none w ∧ (beqV k k = true → k ∉ es.map (·.1))
    | some v => ∃ j e, l[j]? = some e ∧ es[j]? = some (k, v) ∧ ERow ρ w e (k, v) ∧ (Instr.findAsking t kv l i).run P w = .ok (some (i + j, e.val)) w
  | [], [], i, r, _, h => by
    simp only [findE, Option.some.injEq] at h
    subst h
    simp [Instr.findAsking]
  | e :: l, (a, v) :: es, i, r, .cons he hes, h => by
    simp only [findE] at h
    split at h
    · rename_i hh
      cases h
      obtain ⟨h1, h2⟩ := keq_spec hh
      have hrun : (Op.equal t kv e.key).run P w = .ok true w := eq_run 10 t q hq 10000 (by omega) 12 _ _ _ _ _ hk he.1.val h1
      have := beqV_eq _ _ h2
      subst this
      exact ⟨0, e, rfl, rfl, he, by simp [Instr.findAsking, hrun]⟩
    · rename_i hh
      obtain ⟨h1, h2⟩ := keq_spec hh
      have hrun : (Op.equal t kv e.key).run P w = .ok false w := eq_run 10 t q hq 10000 (by omega) 12 _ _ _ _ _ hk he.1.val h1
      have ih := find_run hq hk l es (i + 1) r hes h
      cases r with
      | none =>
        refine ⟨by simp [Instr.findAsking, hrun, ih.1], fun hkk hm => ?_⟩
        rw [List.map_cons] at hm
        rcases List.mem_cons.1 hm with e1 | e1
        · simp only at e1; subst e1; rw [hkk] at h2; cases h2
        · exact ih.2 hkk e1
      | some v' =>
        obtain ⟨j, e', g1, g2, g3, g4⟩ := ih
        exact ⟨j + 1, e', by simpa using g1, by simpa using g2, g3, by simp [Instr.findAsking, hrun, g4]; omega⟩
    · cases h

theorem upd_spec {q : Eq'} {k x : V} : ∀ (es es1 : List (V × V)), updE q k x es = some es1 →
    (findE q k es = some none ∧ es1 = es ++ [(k, x)]) ∨ ∃ j v, findE q k es = some (some v) ∧ es[j]? = some (k, v) ∧ es1 = es.set j (k, x)
  | [], es1, h => by
    simp only [updE, Option.some.injEq] at h
    subst h
    exact .inl ⟨rfl, rfl⟩
  | (a, v) :: es, es1, h => by
    simp only [updE] at h
    split at h
    · rename_i hh
      cases h
      have := beqV_eq _ _ (keq_spec hh).2
      subst this
      exact .inr ⟨0, v, by simp [findE, hh], rfl, rfl⟩
    · rename_i hh
      obtain ⟨es2, h2, rfl⟩ := Option.map_eq_some_iff.1 h
      rcases upd_spec es es2 h2 with ⟨h3, rfl⟩ | ⟨j, v', h3, h4, rfl⟩
      · exact .inl ⟨by simp [findE, hh, h3], rfl⟩
      · exact .inr ⟨j + 1, v', by simp [findE, hh, h3], by simpa using h4, rfl⟩
    · cases h

theorem All2.length {α β : Type} {R : α → β → Prop} : ∀ {l : List α} {m : List β}, All2 R l m → l.length = m.length
  | _, _, .nil => rfl
  | _, _, .cons _ h => by simp [All2.length h]

theorem All2.snoc {α β : Type} {R : α → β → Prop} {a : α} {b : β} (hab : R a b) : ∀ {l : List α} {m : List β}, All2 R l m → All2 R (l ++ [a]) (m ++ [b])
  | _, _, .nil => .cons hab .nil
  | _, _, .cons h h' => .cons h (All2.snoc hab h')

theorem All2.set {α β : Type} {R : α → β → Prop} {a : α} {b : β} (hab : R a b) : ∀ {l : List α} {m : List β} (j : Nat), All2 R l m → All2 R (l.set j a) (m.set j b)
  | _, _, j, .nil => by simp; exact .nil
  | _, _, 0, .cons _ h => .cons hab h
  | _, _, j + 1, .cons h h' => .cons h (All2.set hab j h')

theorem All2.get {α β : Type} {R : α → β → Prop} : ∀ {l : List α} {m : List β} (j : Nat) (a : α) (b : β), All2 R l m → l[j]? = some a → m[j]? = some b → R a b
  | _, _, j, a, b, .nil, h, _ => by simp at h
  | _, _, 0, a, b, .cons h _, h1, h2 => by simp at h1 h2; subst h1 h2; exact h
  | _, _, j + 1, a, b, .cons _ h, h1, h2 => All2.get j a b h (by simpa using h1) (by simpa using h2)

theorem key_index {es : List (V × V)} (hn : (es.map (·.1)).Nodup) {i j : Nat} {k v v' : V} (h1 : es[i]? = some (k, v)) (h2 : es[j]? = some (k, v')) : i = j := by
  have g1 : (es.map (·.1))[i]? = some k := by rw [List.getElem?_map, h1]; rfl
  have g2 : (es.map (·.1))[j]? = some k := by rw [List.getElem?_map, h2]; rfl
  have hi : i < (es.map (·.1)).length := by
    rcases Nat.lt_or_ge i (es.map (·.1)).length with h | h
    · exact h
    · rw [List.getElem?_eq_none h] at g1; cases g1
  exact (List.getElem?_inj hi hn).1 (g1.trans g2.symm)

/-- a map's block, laid anew -/
theorem Inv.putMap (I : Inv P X ρ h w) {b r : Nat} {es es1 : List (V × V)} {es' es1' : Array MapEntry} {clock clock1 : Nat} (hX : X b) (hg : h.get b = some (.map es)) (hL : ρ.L b 0 = some r) (hw : w.heap[r]? = some (.map es' clock))
    (hkeep : ∀ e ∈ es'.toList, ∃ e' ∈ es1'.toList, e'.born = e.born ∧ ∀ k, KRel e.key k → KRel e'.key k)
    (hM : Keeps ρ w ρ { w with heap := w.heap.setIfInBounds r (.map es1' clock1) } → MRel ρ { w with heap := w.heap.setIfInBounds r (.map es1' clock1) } es1 es1' clock1) :
    Inv P (fun b => X b ∨ h.size ≤ b) ρ (h.put b (.map es1)) { w with heap := w.heap.setIfInBounds r (.map es1' clock1) } ∧ Post ρ h w ρ (h.put b (.map es1)) { w with heap := w.heap.setIfInBounds r (.map es1' clock1) } := by
  obtain ⟨hs1, hs2⟩ := MapKept.heap_set (o' := .map es1' clock1) hw
  have K : Keeps ρ w ρ { w with heap := w.heap.setIfInBounds r (.map es1' clock1) } := {
    L := fun h => h
    S := fun h => h
    cell := fun {r' o x} _ hc => by
      by_cases hr' : r' = r
      · subst hr'; simp [World.cell?, hw] at hc
      · simpa [World.cell?, hs2 r' hr'] using hc
    shape := fun {r' c e f} hh => by
      by_cases hr' : r' = r
      · subst hr'; rw [hw] at hh; cases hh
      · exact ⟨c, f, (hs2 r' hr').trans hh, rfl⟩
    maps := fun {r' es2 c2} hh => by
      by_cases hr' : r' = r
      · subst hr'
        rw [hw] at hh
        cases hh
        exact ⟨es1', clock1, hs1, hkeep⟩
      · exact ⟨es2, c2, (hs2 r' hr').trans hh, fun e he => ⟨e, he, rfl, fun _ hk => hk⟩⟩ }
  have fin := I.put (blk' := .map es1) hg (by simpa [ver] using hL) rfl (by simp) hs2 K ⟨rfl, rfl, rfl⟩ (fun o hS => by
    obtain ⟨_, _, _, _, e2, _⟩ := I.stab hX hg (by simpa [ver] using hL) hS
    cases e2) ⟨es1', clock1, hs1, hM K⟩
  exact ⟨fin.1.more (fun b hb => hb), fin.2⟩

end Go.E

namespace Go.E
variable {P : Program} {X : Nat → Prop} {ρ : Rn} {h : H} {w : World}

def lookE (q : Eq') (z k : V) (ok : Bool) (h : H) (m : V) : R V :=
  bif !keyOk q k then .fail else
    match m with
    | .mnil => .ok (if ok then .tup [z, .bool false] else z) h
    | .map b => (match (generalizing := false) h.get b with
      | some (.map es) =>
        (match (generalizing := false) findE q k es with
        | some (some v) => .ok (if ok then .tup [v, .bool true] else v) h
        | some none => .ok (if ok then .tup [z, .bool false] else z) h
        | none => .fail)
      | _ => .fail)
    | _ => .fail

theorem pair_rel {v : Value} {t : V} {b : Bool} (ok : Bool) (hv : VRel ρ w v t) : VRel ρ w (if ok then .tuple #[v, .bool b] else v) (if ok then .tup [t, .bool b] else t) := by
  cases ok
  · exact hv
  · exact .tup (.cons hv (.cons (.bool b) .nil))

theorem sim_look (I : Inv P X ρ h w) {t kt e : TypeId} {q : Eq'} {z : Value} {m k : Value} {tm tk : V} {ok : Bool} (ht : P.underlying t = some (.map kt e)) (hq : keyOf P kt = some q) (hz : zero? P e = some z) (hX : ∀ b, tm = .map b → X b) (hm : VRel ρ w m tm) (hk : VRel ρ w k tk) :
    SimS P X ρ h w ((Instr.lookup t m k ok).run P w) (lookE q (ofValue z) tk ok h tm) := by
  obtain ⟨hq1, hq2⟩ := keyOf_eq hq
  obtain ⟨d, hd⟩ : ∃ d, P.underlying kt = some d := by
    cases hu : P.underlying kt with
    | none => simp [eqOf, hu] at hq1
    | some d => exact ⟨d, rfl⟩
  unfold lookE
  cases hko : keyOk q tk with
  | false => trivial
  | true =>
    obtain ⟨k1, k2, k3⟩ := keyOk_spec hko
    have hcheck : ∀ em, (Instr.checkKey em 10000 kt k).run P w = .ok () w := fun em => check_run 10 kt q hq1 10000 (by omega) 12 k tk hq2 hk k2
    have hzr : VRel ρ w z (ofValue z) := ofValue_rel ρ w z
    simp only [Bool.not_true, cond_false]
    cases hm <;> try trivial
    · refine .pure I (v := if ok then .tuple #[z, .bool false] else z) ?_ (pair_rel ok hzr)
      have hf := findKey_run hd (k := k) (l := []) (r := none) (w := w) (by simp [Instr.findAsking])
      simp [Instr.lookup, run_underlying ht, hcheck, hf, zero?_run hz]
    · rename_i b r hL
      simp only
      cases hg : h.get b with
      | none => trivial
      | some blk =>
        cases blk with
        | map es =>
          simp only
          obtain ⟨es', clock, hw, hM⟩ := I.blk (hX _ rfl) hg (by simpa [ver] using hL)
          cases hfi : findE q tk es with
          | none => trivial
          | some r' =>
            have hrun := find_run hq1 hk es'.toList es 0 r' hM.rows hfi
            cases r' with
            | none =>
              refine .pure I (v := if ok then .tuple #[z, .bool false] else z) ?_ (pair_rel ok hzr)
              have hf := findKey_run hd hrun.1
              simp [Instr.lookup, run_underlying ht, MapKept.run_getObj_map hw, hcheck, hf, zero?_run hz]
            | some v =>
              obtain ⟨j, e', g1, g2, g3, g4⟩ := hrun
              refine .pure I (v := if ok then .tuple #[e'.val, .bool true] else e'.val) ?_ (pair_rel ok g3.2)
              have hf := findKey_run hd g4
              simp [Instr.lookup, run_underlying ht, MapKept.run_getObj_map hw, hcheck, hf]
        | _ => trivial

def mupdE (q : Eq') (k x : V) (h : H) (m : V) : R V :=
  bif !keyOk q k then .fail else
    match m with
    | .map b => (match (generalizing := false) h.get b with
      | some (.map es) => (match (generalizing := false) updE q k x es with
        | some es => .ok (.tup []) (h.put b (.map es))
        | none => .fail)
      | _ => .fail)
    | _ => .fail

theorem modify_list (es : Array MapEntry) (j : Nat) (e : MapEntry) (f : MapEntry → MapEntry) (h : es.toList[j]? = some e) : (es.modify j f).toList = es.toList.set j (f e) := by
  apply List.ext_getElem?
  intro i
  rw [Array.getElem?_toList, Array.getElem?_modify, List.getElem?_set]
  split
  · rename_i hij
    subst hij
    rw [Array.getElem?_toList] at h
    rw [h]
    have : j < es.toList.length := by
      rcases Nat.lt_or_ge j es.size with h' | h'
      · simpa using h'
      · rw [Array.getElem?_eq_none h'] at h; cases h
    rw [if_pos this]
    rfl
  · rw [Array.getElem?_toList]

/-- an entry is laid anew: what it keeps -/
theorem set_keeps {es : List MapEntry} {j : Nat} {e e1 : MapEntry} (he : es[j]? = some e) (hb : e1.born = e.born) (hk : e1.key = e.key) : ∀ x ∈ es, ∃ x' ∈ es.set j e1, x'.born = x.born ∧ ∀ k, KRel x.key k → KRel x'.key k := by
  intro x hx
  obtain ⟨i, hi, rfl⟩ := List.mem_iff_getElem.1 hx
  by_cases hij : j = i
  · subst hij
    rw [List.getElem?_eq_getElem hi] at he
    cases he
    exact ⟨e1, List.mem_iff_getElem.2 ⟨j, by simpa using hi, by simp⟩, hb, fun k h => by rw [hk]; exact h⟩
  · refine ⟨es[i], List.mem_iff_getElem.2 ⟨i, by simpa using hi, ?_⟩, rfl, fun _ h => h⟩
    simp [hij]

theorem set_born {es : List MapEntry} {j : Nat} {e e1 : MapEntry} (he : es[j]? = some e) (hb : e1.born = e.born) : (es.set j e1).map (·.born) = es.map (·.born) := by
  apply List.ext_getElem?
  intro i
  rw [List.getElem?_map, List.getElem?_map, List.getElem?_set]
  split
  · rename_i hij
    subst hij
    rw [he]
    have : j < es.length := by
      rcases Nat.lt_or_ge j es.length with h' | h'
      · exact h'
      · rw [List.getElem?_eq_none h'] at he; cases he
    simp [this, hb]
  · rfl

theorem MRel.laid {w' : World} (K : Keeps ρ w ρ w') {es : List (V × V)} {es' : Array MapEntry} {clock j : Nat} {k v x : V} {e : MapEntry} {xv : Value} (hM : MRel ρ w es es' clock) (he : es'.toList[j]? = some e) (hes : es[j]? = some (k, v)) (hx : VRel ρ w xv x) :
    MRel ρ w' (es.set j (k, x)) (es'.modify j fun e => { e with val := xv }) clock where
  rows := by
    rw [modify_list es' j e _ he]
    have := All2.get j _ _ hM.rows he hes
    have h1 : (fun (e : MapEntry) (p : V × V) => KRel e.key p.1 ∧ VRel ρ w' e.val p.2) { e with val := xv } (k, x) := ⟨this.1, VRel.keep (v := xv) (t := x) K hx⟩
    exact All2.set (R := fun (e : MapEntry) (p : V × V) => KRel e.key p.1 ∧ VRel ρ w' e.val p.2) h1 j (hM.rows.imp fun a b hd => ⟨hd.1, hd.2.keep K⟩)
  keys := by
    have : (es.set j (k, x)).map (·.1) = es.map (·.1) := by
      apply List.ext_getElem?
      intro i
      rw [List.getElem?_map, List.getElem?_map, List.getElem?_set]
      split
      · rename_i hij
        subst hij
        rw [hes]
        have : j < es.length := by
          rcases Nat.lt_or_ge j es.length with h' | h'
          · exact h'
          · rw [List.getElem?_eq_none h'] at hes; cases hes
        simp [this]
      · rfl
    rw [this]
    exact hM.keys
  born := by
    rw [modify_list es' j e _ he]
    have hb := set_born (e1 := { e with val := xv }) he rfl
    refine ⟨by rw [hb]; exact hM.born.1, fun y hy => ?_⟩
    have : y.born ∈ (es'.toList.set j { e with val := xv }).map (·.born) := List.mem_map.2 ⟨y, hy, rfl⟩
    rw [hb] at this
    obtain ⟨z, hz, hzb⟩ := List.mem_map.1 this
    rw [← hzb]
    exact hM.born.2 z hz

theorem MRel.more {w' : World} (K : Keeps ρ w ρ w') {es : List (V × V)} {es' : Array MapEntry} {clock : Nat} {k x : V} {kv xv : Value} (hM : MRel ρ w es es' clock) (hn : k ∉ es.map (·.1)) (hk : KRel kv k) (hx : VRel ρ w xv x) :
    MRel ρ w' (es ++ [(k, x)]) (es'.push { key := kv, val := xv, born := clock }) (clock + 1) where
  rows := by
    rw [Array.toList_push]
    have h1 : (fun (e : MapEntry) (p : V × V) => KRel e.key p.1 ∧ VRel ρ w' e.val p.2) { key := kv, val := xv, born := clock } (k, x) := ⟨hk, VRel.keep (v := xv) (t := x) K hx⟩
    exact All2.snoc (R := fun (e : MapEntry) (p : V × V) => KRel e.key p.1 ∧ VRel ρ w' e.val p.2) h1 (hM.rows.imp fun a b hd => ⟨hd.1, hd.2.keep K⟩)
  keys := by
    rw [List.map_append, List.nodup_append]
    refine ⟨hM.keys, by simp, fun a ha b hb => ?_⟩
    simp at hb
    subst hb
    intro e
    subst e
    exact hn ha
  born := by
    rw [Array.toList_push]
    refine ⟨?_, fun y hy => ?_⟩
    · rw [List.map_append, List.nodup_append]
      refine ⟨hM.born.1, by simp, fun a ha b hb => ?_⟩
      simp at hb
      subst hb
      obtain ⟨z, hz, rfl⟩ := List.mem_map.1 ha
      have := hM.born.2 z hz
      omega
    · rcases List.mem_append.1 hy with hy | hy
      · have := hM.born.2 y hy; omega
      · simp at hy; subst hy; simp

theorem sim_mupd (I : Inv P X ρ h w) {t kt e : TypeId} {q : Eq'} {m k x : Value} {tm tk tx : V} (ht : P.underlying t = some (.map kt e)) (hq : keyOf P kt = some q) (hX : ∀ b, tm = .map b → X b) (hm : VRel ρ w m tm) (hk : VRel ρ w k tk) (hx : VRel ρ w x tx) :
    SimS P X ρ h w ((do Instr.mapUpdate t m k x; pure undef : Sem Value).run P w) (mupdE q tk tx h tm) := by
  obtain ⟨hq1, hq2⟩ := keyOf_eq hq
  obtain ⟨d, hd⟩ : ∃ d, P.underlying kt = some d := by
    cases hu : P.underlying kt with
    | none => simp [eqOf, hu] at hq1
    | some d => exact ⟨d, rfl⟩
  unfold mupdE
  cases hko : keyOk q tk with
  | false => trivial
  | true =>
    obtain ⟨k1, k2, k3⟩ := keyOk_spec hko
    have hkk := key_of hk k1
    have hcheck : ∀ em, (Instr.checkKey em 10000 kt k).run P w = .ok () w := fun em => check_run 10 kt q hq1 10000 (by omega) 12 k tk hq2 hk k2
    simp only [Bool.not_true, cond_false]
    cases hm <;> try trivial
    rename_i b r hL
    simp only
    cases hg : h.get b with
    | none => trivial
    | some blk =>
      cases blk with
      | map es =>
        simp only
        obtain ⟨es', clock, hw, hM⟩ := I.blk (hX _ rfl) hg (by simpa [ver] using hL)
        cases hup : updE q tk tx es with
        | none => trivial
        | some es1 =>
          rcases upd_spec es es1 hup with ⟨hfi, rfl⟩ | ⟨j0, v, hfi, hes, rfl⟩
          · have hrun := find_run hq1 hk es'.toList es 0 none hM.rows hfi
            have hf := findKey_run hd hrun.1
            obtain ⟨I', p⟩ := I.putMap (es1 := es ++ [(tk, tx)]) (es1' := es'.push { key := k, val := x, born := clock }) (clock1 := clock + 1) (hX _ rfl) hg hL hw
              (fun e he => ⟨e, by simp [Array.toList_push, Array.mem_toList_iff.1 he], rfl, fun _ h => h⟩) (fun K => hM.more K (hrun.2 k3) hkk hx)
            exact ⟨undef, _, ρ, by simp [Instr.mapUpdate, run_underlying ht, MapKept.run_getObj_map hw, hcheck, hf, MapKept.run_setObj_map _ hw], undef_rel _ _, I', p⟩
          · obtain ⟨j, e', g1, g2, g3, g4⟩ := find_run hq1 hk es'.toList es 0 (some v) hM.rows hfi
            have hj := key_index hM.keys hes g2
            subst hj
            have hf := findKey_run hd g4
            rw [Nat.zero_add] at hf
            have hsame := KRel.inj g3.1 hkk
            have hget : es'[j0]? = some e' := by rw [← Array.getElem?_toList]; exact g1
            have hstay : (Instr.keyThatStays (((es'[j0]?).map (·.key)).getD k) k).run P w = .ok k w := by
              rw [hget]
              simp only [Option.map_some, Option.getD_some, hsame]
              exact keyThatStays_run hkk k1
            have hmod : (es'.modify j0 fun e => { e with key := k, val := x }) = es'.modify j0 fun e => { e with val := x } := by
              apply Array.ext'
              rw [modify_list _ _ _ _ g1, modify_list _ _ _ _ g1, ← hsame]
            obtain ⟨I', p⟩ := I.putMap (es1 := es.set j0 (tk, tx)) (es1' := es'.modify j0 fun e => { e with val := x }) (clock1 := clock) (hX _ rfl) hg hL hw
              (by rw [modify_list _ _ _ _ g1]; exact set_keeps g1 rfl rfl) (fun K => hM.laid K g1 hes hx)
            rw [← hmod] at I' p
            exact ⟨undef, _, ρ, by simp [Instr.mapUpdate, run_underlying ht, MapKept.run_getObj_map hw, hcheck, hf, hstay, MapKept.run_setObj_map _ hw], undef_rel _ _, I', p⟩
      | _ => trivial

def mentE (q : Eq') (z k : V) (h : H) (m : V) : R V :=
  bif !keyOk q k then .fail else
    match m with
    | .map b => (match (generalizing := false) h.get b with
      | some (.map es) =>
        (match (generalizing := false) findE q k es with
        | some (some v) => .ok (.tup [v, .stamp b k]) (h.put b (.map es))
        | some none => .ok (.tup [z, .stamp b k]) (h.put b (.map (es ++ [(k, z)])))
        | none => .fail)
      | _ => .fail)
    | _ => .fail

theorem sim_ment (I : Inv P X ρ h w) {t kt e : TypeId} {q : Eq'} {z m k : Value} {tm tk : V} (ht : P.underlying t = some (.map kt e)) (hq : keyOf P kt = some q) (hz : zero? P e = some z) (hX : ∀ b, tm = .map b → X b) (hm : VRel ρ w m tm) (hk : VRel ρ w k tk) :
    SimS P X ρ h w ((Instr.mapEntry t m k).run P w) (mentE q (ofValue z) tk h tm) := by
  obtain ⟨hq1, hq2⟩ := keyOf_eq hq
  obtain ⟨d, hd⟩ : ∃ d, P.underlying kt = some d := by
    cases hu : P.underlying kt with
    | none => simp [eqOf, hu] at hq1
    | some d => exact ⟨d, rfl⟩
  unfold mentE
  cases hko : keyOk q tk with
  | false => trivial
  | true =>
    obtain ⟨k1, k2, k3⟩ := keyOk_spec hko
    have hkk := key_of hk k1
    have hcheck : ∀ em, (Instr.checkKey em 10000 kt k).run P w = .ok () w := fun em => check_run 10 kt q hq1 10000 (by omega) 12 k tk hq2 hk k2
    simp only [Bool.not_true, cond_false]
    cases hm <;> try trivial
    rename_i b r hL
    simp only
    cases hg : h.get b with
    | none => trivial
    | some blk =>
      cases blk with
      | map es =>
        simp only
        obtain ⟨es', clock, hw, hM⟩ := I.blk (hX _ rfl) hg (by simpa [ver] using hL)
        cases hfi : findE q tk es with
        | none => trivial
        | some r' =>
          cases r' with
          | none =>
            have hrun := find_run hq1 hk es'.toList es 0 none hM.rows hfi
            have hf := findKey_run hd hrun.1
            obtain ⟨I', p⟩ := I.putMap (es1 := es ++ [(tk, ofValue z)]) (es1' := es'.push { key := k, val := z, born := clock }) (clock1 := clock + 1) (hX _ rfl) hg hL hw
              (fun e he => ⟨e, by simp [Array.toList_push, Array.mem_toList_iff.1 he], rfl, fun _ h => h⟩) (fun K => hM.more K (hrun.2 k3) hkk (ofValue_rel ρ w z))
            refine ⟨.tuple #[z, goInt clock], _, ρ, by simp [Instr.mapEntry, run_underlying ht, MapKept.run_getObj_map hw, hcheck, hf, MapKept.run_setObj_map _ hw, zero?_run hz], ?_, I', p⟩
            refine .tup (.cons (ofValue_rel _ _ z) (.cons ?_ .nil))
            exact .stamp hL ⟨_, _, (MapKept.heap_set hw).1, { key := k, val := z, born := clock }, by simp, rfl, hkk⟩
          | some v =>
            obtain ⟨j, e', g1, g2, g3, g4⟩ := find_run hq1 hk es'.toList es 0 (some v) hM.rows hfi
            have hf := findKey_run hd g4
            rw [Nat.zero_add] at hf
            have hsame := KRel.inj g3.1 hkk
            have hget : es'[j]? = some e' := by rw [← Array.getElem?_toList]; exact g1
            have hstay : (Instr.keyThatStays (((es'[j]?).map (·.key)).getD k) k).run P w = .ok k w := by
              rw [hget]
              simp only [Option.map_some, Option.getD_some, hsame]
              exact keyThatStays_run hkk k1
            have hmod : (es'.modify j fun e => { e with key := k }) = es' := by
              apply Array.ext'
              rw [modify_list _ _ _ _ g1, ← hsame]
              apply List.ext_getElem?
              intro i
              rw [List.getElem?_set]
              split
              · rename_i hij
                subst hij
                rw [g1]
                have : j < es'.toList.length := by
                  rcases Nat.lt_or_ge j es'.toList.length with h' | h'
                  · exact h'
                  · rw [List.getElem?_eq_none h'] at g1; cases g1
                rw [if_pos this]
              · rfl
            obtain ⟨I', p⟩ := I.putMap (es1 := es) (es1' := es') (clock1 := clock) (hX _ rfl) hg hL hw
              (fun e he => ⟨e, he, rfl, fun _ h => h⟩) (fun K => ⟨hM.rows.imp fun a b hd => ⟨hd.1, hd.2.keep K⟩, hM.keys, hM.born⟩)
            have hstay' : (Instr.keyThatStays e'.key k).run P w = .ok k w := by simpa [hget] using hstay
            refine ⟨.tuple #[e'.val, goInt e'.born], _, ρ, by simp [Instr.mapEntry, run_underlying ht, MapKept.run_getObj_map hw, hcheck, hf, hstay', MapKept.run_setObj_map _ hw, hmod, hget], ?_, I', p⟩
            refine .tup (.cons (g3.2.keep p.keeps) (.cons ?_ .nil))
            exact .stamp hL ⟨_, _, (MapKept.heap_set hw).1, e', List.mem_of_getElem? g1, rfl, g3.1⟩
      | _ => trivial

def estoreE (q : Eq') (x : V) (h : H) (m s : V) : R V :=
  match m, s with
    | .map b, .stamp c k => if b = c then (match (generalizing := false) h.get b with
      | some (.map es) => (match (generalizing := false) updE q k x es with
        | some es => .ok (.tup []) (h.put b (.map es))
        | none => .fail)
      | _ => .fail) else .fail
    | _, _ => .fail

theorem findIdx_born : ∀ (l : List MapEntry) (j : Nat) (e : MapEntry), (l.map (·.born)).Nodup → l[j]? = some e → l.findIdx? (fun (x : MapEntry) => ((x.born : Nat) : Int) == (e.born : Int)) = some j
  | [], j, e, _, h => by simp at h
  | x :: l, 0, e, _, h => by
    simp at h
    subst h
    simp [List.findIdx?_cons]
  | x :: l, j + 1, e, hn, h => by
    rw [List.map_cons, List.nodup_cons] at hn
    have h' : l[j]? = some e := by simpa using h
    have hne : ¬ ((x.born : Nat) : Int) = (e.born : Int) := fun hh => hn.1 (List.mem_map.2 ⟨e, List.mem_of_getElem? h', by omega⟩)
    rw [List.findIdx?_cons, findIdx_born l j e hn.2 h']
    simp [hne]

mutual
theorem KRel.fn : ∀ {x : Value} {a b : V}, KRel x a → KRel x b → a = b
  | _, _, _, .bool _, h => by cases h; rfl
  | _, _, _, .int _ _, h => by cases h; rfl
  | _, _, _, .str _, h => by cases h; rfl
  | _, _, _, .agg h1, h => by
    cases h with
    | agg h2 => exact congrArg V.agg (KsRel.fn h1 h2)
theorem KsRel.fn : ∀ {x : List Value} {a b : List V}, KsRel x a → KsRel x b → a = b
  | _, _, _, .nil, h => by cases h; rfl
  | _, _, _, .cons h1 h2, h => by
    cases h with
    | cons h3 h4 => rw [KRel.fn h1 h3, KsRel.fn h2 h4]
end

mutual
theorem KRel.beq : ∀ {x : Value} {a : V}, KRel x a → beqV a a = true
  | _, _, .bool _ => by simp [beqV]
  | _, _, .int _ _ => by simp [beqV]
  | _, _, .str _ => by simp [beqV]
  | _, _, .agg h => by simp only [beqV]; exact KsRel.beq h
theorem KsRel.beq : ∀ {x : List Value} {a : List V}, KsRel x a → beqL a a = true
  | _, _, .nil => rfl
  | _, _, .cons h1 h2 => by simp only [beqL, KRel.beq h1, KsRel.beq h2, Bool.and_self]
end

theorem find_none {q : Eq'} {k : V} (hk : beqV k k = true) : ∀ (es : List (V × V)), findE q k es = some none → k ∉ es.map (·.1)
  | [], _ => by simp
  | (a, v) :: es, h => by
    simp only [findE] at h
    split at h
    · cases h
    · rename_i hh
      obtain ⟨_, h2⟩ := keq_spec hh
      rw [List.map_cons]
      intro hm
      rcases List.mem_cons.1 hm with e | e
      · simp only at e; subst e; rw [hk] at h2; cases h2
      · exact find_none hk es h e
    · cases h

theorem sim_estore (I : Inv P X ρ h w) {t : TypeId} {q : Eq'} {m s x : Value} {tm ts tx : V} (hX : ∀ b, tm = .map b → X b) (hm : VRel ρ w m tm) (hs : VRel ρ w s ts) (hx : VRel ρ w x tx) :
    SimS P X ρ h w ((do Instr.entryStore t m s x; pure undef : Sem Value).run P w) (estoreE q tx h tm ts) := by
  unfold estoreE
  cases hm <;> try trivial
  rename_i b r hL
  cases hs <;> try trivial
  rename_i c r' n k hL' hst
  simp only
  split
  · rename_i hbc
    subst hbc
    cases hg : h.get b with
    | none => trivial
    | some blk =>
      cases blk with
      | map es =>
        simp only
        obtain ⟨es', clock, hw, hM⟩ := I.blk (hX _ rfl) hg (by simpa [ver] using hL)
        rw [hL] at hL'
        cases hL'
        obtain ⟨es2, c2, hw2, e, he, heb, hek⟩ := hst
        rw [hw] at hw2
        cases hw2
        obtain ⟨j, hj⟩ := List.mem_iff_getElem?.1 he
        have hlen := hM.rows.length
        have hjl : j < es'.toList.length := by
          rcases Nat.lt_or_ge j es'.toList.length with h' | h'
          · exact h'
          · rw [List.getElem?_eq_none h'] at hj; cases hj
        obtain ⟨⟨a, v⟩, hav⟩ : ∃ p, es[j]? = some p := ⟨es[j]'(by omega), List.getElem?_eq_getElem (by omega)⟩
        have hrow := All2.get j _ _ hM.rows hj hav
        cases hup : updE q k tx es with
        | none => trivial
        | some es1 =>
          have hak : ∃ v, es[j]? = some (k, v) ∧ es1 = es.set j (k, tx) := by
            obtain rfl : a = k := KRel.fn hrow.1 hek
            rcases upd_spec es es1 hup with ⟨hfi, rfl⟩ | ⟨j0, v0, hfi, hes0, rfl⟩
            · exact absurd (List.mem_map.2 ⟨(a, v), List.mem_of_getElem? hav, rfl⟩) (find_none (KRel.beq hek) es hfi)
            · have := key_index hM.keys hav hes0
              subst this
              exact ⟨v, hav, rfl⟩
          obtain ⟨v', hes, rfl⟩ := hak
          obtain ⟨I', p⟩ := I.putMap (es1 := es.set j (k, tx)) (es1' := es'.modify j fun e => { e with val := x }) (clock1 := clock) (hX _ rfl) hg hL hw
              (by rw [modify_list _ _ _ _ hj]; exact set_keeps hj rfl rfl) (fun K => hM.laid K hj hes hx)
          have hidx : es'.findIdx? (fun (x : MapEntry) => ((x.born : Nat) : Int) == n) = some j := by
            rw [← heb]
            have := findIdx_born _ j e hM.born.1 hj
            rw [← List.findIdx?_toArray] at this
            simpa using this
          exact ⟨undef, _, ρ, by simp [Instr.entryStore, MapKept.run_getObj_map hw, asInt, asIntOf, hidx, MapKept.run_setObj_map _ hw], undef_rel _ _, I', p⟩
      | _ => trivial
  · trivial

theorem sim_lenMap (I : Inv P X ρ h w) {a : Array TypeId} {T t k e : TypeId} {x : Value} {tx : V} (ha : a[0]? = some t) (ht : P.underlying t = some (.map k e)) (hX : ∀ b, tx = .map b → X b) (hx : VRel ρ w x tx) :
    SimS P X ρ h w ((Builtin.len_ a T #[x]).run P w)
      (match (generalizing := false) tx with
      | .mnil => .ok (.int .i64 0) h
      | .map b => (match (generalizing := false) h.get b with | some (.map es) => .ok (.int .i64 es.length) h | _ => .fail)
      | _ => .fail) := by
  cases hx <;> try trivial
  · refine .pure I (v := .int .i64 0) ?_ (.int _ _)
    simp [Builtin.len_, ha, run_underlying ht, goInt]
  · rename_i b r hL
    simp only
    cases hg : h.get b with
    | none => trivial
    | some blk =>
      cases blk with
      | map es =>
        obtain ⟨es', clock, hw, hM⟩ := I.blk (hX _ rfl) hg (by simpa [ver] using hL)
        have hlen := hM.rows.length
        refine .pure I (v := .int .i64 es.length) ?_ (.int _ _)
        simp [Builtin.len_, ha, run_underlying ht, goInt, MapKept.run_getObj_map hw]
        rw [Array.length_toList] at hlen
        omega
      | _ => trivial

theorem sim_mkMap (I : Inv P X ρ h w) {t : TypeId} : SimS P X ρ h w ((Instr.makeMap t none).run P w) (.ok (.map h.size) (h.push (.map []))) := by
  obtain ⟨I', p, hL⟩ := I.push (blk := .map []) (o := .map #[] 0) (fun ρ' _ K => ⟨#[], 0, by rw [alloc_heap, if_pos rfl], .nil, by simp, by simp, by simp⟩)
  exact ⟨.map (some w.heap.size), w.alloc (.map #[] 0), _, by simp [Instr.makeMap], .map (by simpa [ver] using hL), I', p⟩

end Go.E

namespace Go.E
variable {P : Program} {X : Nat → Prop} {ρ : Rn} {h : H} {w : World}

/-! ### Every operation that is no call -/
/-- what an operation comes to -/
def OpRun (P : Program) (X : Nat → Prop) (ρ : Rn) (h : H) (w : World) (r : Result Next) : R V → Prop
  | .ok t h' => ∃ v w' ρ', (r = .ok (.value v) w' ∨ (r = .ok .skip w' ∧ v = undef)) ∧ VRel ρ' w' v t ∧ Inv P (fun b => X b ∨ h.size ≤ b) ρ' h' w' ∧ Post ρ h w ρ' h' w'
  | .pan t h' => ∃ v w' ρ', r = .halt (.panic v) w' ∧ VRel ρ' w' v t ∧ Inv P (fun b => X b ∨ h.size ≤ b) ρ' h' w' ∧ Post ρ h w ρ' h' w'
  | .fail => True

theorem OpRun.of {r : Result Next} {run : Result Value} {res : R V} (hs : SimS P X ρ h w run res) (h1 : ∀ v w', run = .ok v w' → r = .ok (.value v) w' ∨ (r = .ok .skip w' ∧ v = undef)) (h2 : ∀ v w', run = .halt (.panic v) w' → r = .halt (.panic v) w') : OpRun P X ρ h w r res := by
  cases res with
  | ok t h' =>
    obtain ⟨v, w', ρ', e, rest⟩ := hs
    exact ⟨v, w', ρ', h1 _ _ e, rest⟩
  | pan t h' =>
    obtain ⟨v, w', ρ', e, rest⟩ := hs
    exact ⟨v, w', ρ', h2 _ _ e, rest⟩
  | fail => trivial

theorem OpRun.v {s : Sem Value} {res : R V} (hs : SimS P X ρ h w (s.run P w) res) : OpRun P X ρ h w ((do pure (.value (← s)) : Sem Next).run P w) res :=
  .of hs (fun v w' e => .inl (by simp [e])) (fun v w' e => by simp [e, Result.andThen])

theorem OpRun.u {s : Sem Unit} {res : R V} (hs : SimS P X ρ h w ((do s; pure undef : Sem Value).run P w) res) : OpRun P X ρ h w ((do s; pure .skip : Sem Next).run P w) res := by
  refine .of hs (fun v w' e => .inr ?_) (fun v w' e => ?_)
  · simp only [Sem.run_bind] at e ⊢
    cases hr : s.run P w with
    | ok u w'' => simp [hr] at e ⊢; exact ⟨e.2, e.1.symm⟩
    | halt x w'' => simp [hr, Result.andThen] at e
  · simp only [Sem.run_bind] at e ⊢
    cases hr : s.run P w with
    | ok u w'' => simp [hr] at e
    | halt x w'' => simp [hr, Result.andThen] at e ⊢; exact e

def Foot (X : Nat → Prop) : Option (List Nat) → Prop
  | none => ∀ b, X b
  | some l => ∀ b ∈ l, X b

theorem list_one {α : Type} {a : Array α} {x : α} (h : a.toList = [x]) : a = #[x] := Array.ext' (by simpa using h)
theorem list_two {α : Type} {a : Array α} {x y : α} (h : a.toList = [x, y]) : a = #[x, y] := Array.ext' (by simpa using h)

theorem builtin_run (b : Builtin) (c : Go.Call) (T : TypeId) (a : Act) (hc : c.callee = .builtin b) :
    ∃ cs, (do let d ← Go.resolve a.eval c T; invoke d.target d.args : Sem Next).run P w = (builtin b c.argTypes T cs (c.args.map a.eval)).run P w :=
  ⟨_, by simp only [Go.resolve, hc, invoke, Sem.run_bind, Sem.run_pure, Result.andThen_ok]; rfl⟩

theorem optE {C : Ctx} {env : Env} {a : Act} (he : ERel ρ w a.tmps env) (hg : Globs ρ w C) (x : Option Operand) : ∀ d n, optNat C env d (x.map opd) = some n → isBnd d n (x.map a.eval) := fun _ _ h => isBnd_of he hg h

theorem sim_other {C : Ctx} {a : Act} {env : Env} (I : Inv P X ρ h w) (he : ERel ρ w a.tmps env) (hg : Globs ρ w C) (hl : ∀ e n off t, C.lies e n off t = true → liesAt P P.depth e (n / P.cellsOf e) off t 1 = true)
    {o : Oper} {eop : EOp} (hc : compOp P o = some eop) (hX : Foot X (foot C env eop)) (hcall : ∀ c, o.op ≠ .call c) : OpRun P X ρ h w ((execOp a.eval o).run P w) (simpleOp C env h eop) := by
  have hr := fun x => opd_rel (C := C) he hg x
  unfold execOp
  cases hop : o.op <;> simp only [compOp, hop, Option.pure_def, Option.bind_eq_bind, Option.some.injEq, reduceCtorEq] at hc
  case move x => subst hc; exact .of (run := .ok (a.eval x) w) (.pure I rfl (hr x)) (fun v w' e => by cases e; exact .inl rfl) (fun v w' e => by cases e)
  case assign x => subst hc; exact .of (run := .ok (a.eval x) w) (.pure I rfl (hr x)) (fun v w' e => by cases e; exact .inl rfl) (fun v w' e => by cases e)
  case pick c x y =>
    subst hc
    have h1 := sim_pick I (hr c) (hr x) (hr y)
    refine .of h1 (fun v w' e => .inl ?_) (fun v w' e => ?_)
    · simp only [Sem.run_bind] at e ⊢
      cases hb : (asBool (a.eval c)).run P w <;> simp [hb, Result.andThen] at e ⊢; exact e
    · simp only [Sem.run_bind] at e ⊢
      cases hb : (asBool (a.eval c)).run P w <;> simp [hb, Result.andThen] at e ⊢; exact e
  case alloc e =>
    obtain ⟨z, hz, hc⟩ := Option.bind_eq_some_iff.1 hc
    cases hc
    exact .v (sim_alloc I hz)
  case box e x =>
    subst hc
    refine .v ?_
    simp only [simpleOp]
    cases hcs : ((opd x).get C env).cells? with
    | none => trivial
    | some cs => exact sim_box I (cells?_rel (hr x) hcs)
  case build t ps =>
    split at hc
    · cases hc
    · rename_i hns
      obtain ⟨z, hz, hc⟩ := Option.bind_eq_some_iff.1 hc
      obtain ⟨qs, hq, hc⟩ := Option.bind_eq_some_iff.1 hc
      cases hc
      exact .v (sim_build I he hg hz hq (fun e he => hns e he))
  case buildSlice t len ps =>
    split at hc
    · rename_i e hu
      obtain ⟨z, hz, hc⟩ := Option.bind_eq_some_iff.1 hc
      obtain ⟨s, hs, hc⟩ := Option.bind_eq_some_iff.1 hc
      split at hc
      · cases hc
      · rename_i hno
        obtain ⟨qs, hq, hc⟩ := Option.bind_eq_some_iff.1 hc
        cases hc
        simp only [Bool.or_eq_true, decide_eq_true_eq, not_or, ne_eq, Decidable.not_not, Nat.not_lt] at hno
        exact .v (sim_bslice I he hg hu hz hs hno.1.1 hno.1.2 hno.2 hq)
    · cases hc
  case load t x =>
    obtain ⟨g, hag, hc⟩ := Option.bind_eq_some_iff.1 hc
    cases hc
    refine .v (sim_load I hag (hr x) (fun b off u e => ?_))
    simp only [foot, e, Foot] at hX
    exact hX b (by simp)
  case store t x y =>
    obtain ⟨s, hs, hc⟩ := Option.bind_eq_some_iff.1 hc
    cases hc
    refine .u (sim_store I hs (hr x) (hr y) (fun b off u e => ?_))
    simp only [foot, e, Foot] at hX
    exact hX b (by simp)
  case nilCheck x =>
    subst hc
    have h1 := sim_nilCheck I hop rfl (hr x)
    unfold execOp at h1
    rw [hop] at h1
    refine .of h1 (fun v w' e => .inl ?_) (fun v w' e => ?_)
    · generalize (Sem.run P _ w) = r at e ⊢
      cases r with
      | ok n w'' => cases n <;> simp at e ⊢; exact e
      | halt _ _ => simp [Result.andThen] at e
    · generalize (Sem.run P _ w) = r at e ⊢
      cases r with
      | ok n w'' => cases n <;> simp at e
      | halt _ _ => simp [Result.andThen] at e ⊢; exact e
  case binOp op t x y yt =>
    unfold compBin at hc
    split at hc
    · cases hc; exact .v (sim_bin I (hr x) (hr y))
    · cases hc; exact .v (sim_bin I (hr x) (hr y))
    · rename_i d hni hns hu
      simp only [Option.pure_def, Option.bind_eq_bind] at hc
      split at hc
      · cases hc
      · rename_i hfit
        obtain ⟨e, heq, hc⟩ := Option.bind_eq_some_iff.1 hc
        simp only [Bool.not_eq_true, Bool.not_eq_false', Bool.not_eq_false] at hfit
        split at hc <;> cases hc
        · exact .v (sim_eql I (hr x) (hr y) heq (.inl ⟨rfl, rfl⟩) hu (fun k e => hni k (by rw [e])) (fun e => hns (by rw [e])) hfit)
        · exact .v (sim_eql I (hr x) (hr y) heq (.inr ⟨rfl, rfl⟩) hu (fun k e => hni k (by rw [e])) (fun e => hns (by rw [e])) hfit)
    · cases hc
  case unOp op t x => subst hc; exact .v (sim_un I (hr x))
  case convert s d x =>
    split at hc
    · rename_i hs hd; cases hc; exact .v (sim_convInt I hs hd (hr x))
    · rename_i hs hd; cases hc; exact .v (sim_same I hs hd (hr x))
    · rename_i hs hd
      split at hc
      · rename_i he'; cases hc; exact .v (sim_toBytes I hs hd he' (hr x))
      · cases hc
    · rename_i hs hd
      split at hc
      · rename_i he'; cases hc; exact .v (sim_toStr I hs he' hd (hr x) (fun b _ _ _ _ _ _ _ => hX b))
      · cases hc
    · rename_i hs hd
      split at hc
      · cases hc
      · cases hc
      · rename_i n hz hn
        cases hc
        obtain ⟨m, rfl⟩ : ∃ m, n = m + 1 := ⟨n - 1, by have : n ≠ 0 := fun e => hz e; omega⟩
        refine .v (sim_toUnsafe I hs hd hn (fun b off u e => ?_) (hr x))
        simp only [foot, e, Foot] at hX
        exact hX b (by simp)
    · rename_i hs hd
      split at hc
      · cases hc
      · rename_i n hn
        cases hc
        refine .v (sim_ofUnsafe I hl hs hd hn (fun b off u e => ?_) (hr x))
        simp only [foot, e, Foot] at hX
        exact hX b (by simp)
    · cases hc
  case makeInterface t x =>
    split at hc <;> cases hc
    rename_i d hni hu
    exact .v (sim_mkIface I hu (fun ms e => hni ms e) (hr x))
  case makeFunc fn x y =>
    split at hc <;> cases hc
    have hx := opds_rel (C := C) he hg x.toList
    have hy := opds_rel (C := C) he hg y.toList
    exact .v (sim_mkFunc I (.func _) (by simpa using hx) (by simpa using hy))
  case makeMap t r =>
    cases r <;> simp only [reduceCtorEq, Option.some.injEq] at hc
    subst hc
    exact .v (sim_mkMap I)
  case makeSlice t l c =>
    split at hc
    · rename_i e hu
      obtain ⟨z, hz, hc⟩ := Option.bind_eq_some_iff.1 hc
      obtain ⟨i, hi, hc⟩ := Option.bind_eq_some_iff.1 hc
      split at hc
      · cases hc
      · rename_i hno
        cases hc
        simp only [Bool.or_eq_true, decide_eq_true_eq, not_or, ne_eq, Decidable.not_not] at hno
        have hzz : i.zero = some z := by simpa [zero?, hi] using hz
        exact .v (sim_mkSlice I hu hi hzz hno.1 (hr l) (hr c))
    · cases hc
  case slice t x lo hi mx =>
    split at hc
    · cases hc
    · rename_i hno
      have hno' : hi.map a.eval = none → mx.map a.eval = none := by
        intro h1
        cases hi <;> simp at h1
        cases mx <;> simp at hno ⊢
      split at hc
      · rename_i hu
        split at hc
        · rename_i hmx
          cases hc
          have hmx' : mx.map a.eval = none := by cases mx <;> simp at hmx ⊢
          refine .v ?_
          rw [hmx']
          simp only [simpleOp]
          generalize hg' : (opd x).get C env = tx
          have hx := hr x
          rw [hg'] at hx
          generalize a.eval x = v at hx
          cases hx <;> try trivial
          rename_i s
          simp only
          cases hlo : optNat C env 0 (lo.map opd) with
          | none => trivial
          | some l =>
            cases hhi : optNat C env (bs s).length (hi.map opd) with
            | none => trivial
            | some u =>
              simp only [nble, Bool.cond_eq_ite, Bool.and_eq_true, decide_eq_true_eq]
              split
              · rename_i hlu
                rw [bs_length] at hhi hlu
                exact sim_sliceStr I hu (optE he hg hi _ _ hhi) (optE he hg lo _ _ hlo) hlu.2 hlu.1
              · trivial
        · cases hc
      · rename_i e hu
        obtain ⟨s, hs, hc⟩ := Option.bind_eq_some_iff.1 hc
        cases hc
        have := sim_sliceSl I hu hs (hr x) (lo := lo.map a.eval) (hi := hi.map a.eval) (mx := mx.map a.eval) hno' (fun d => optNat C env d (lo.map opd)) (fun d => optNat C env d (hi.map opd)) (fun d => optNat C env d (mx.map opd))
          (fun n h => optE he hg lo _ _ h) (fun d n h => optE he hg hi _ _ h) (fun d n h => optE he hg mx _ _ h) (fun h d => by cases mx <;> simp at h ⊢; rfl)
        refine .v ?_
        simp only [Option.isSome_map] at this
        simp only [simpleOp, Option.isSome_map]
        generalize (opd x).get C env = tx at this ⊢
        cases tx <;> first | exact this | skip
      · rename_i n e hu
        obtain ⟨s, hs, hc⟩ := Option.bind_eq_some_iff.1 hc
        cases hc
        refine .v (sim_sliceArr I hu hs (hr x) (lo := lo.map a.eval) (hi := hi.map a.eval) (mx := mx.map a.eval) hno' _ _ _ (fun n h => optE he hg lo _ _ h) (fun n h => optE he hg hi _ _ h) (fun n h => optE he hg mx _ _ h) (fun b off u e => ?_))
        simp only [foot, e, Foot] at hX
        exact hX b (by simp)
      · cases hc
  case fieldAddr s x f =>
    split at hc
    · rename_i fs hu
      obtain ⟨g, hg', hc⟩ := Option.bind_eq_some_iff.1 hc
      split at hc
      · cases hc
      · cases hc
      · rename_i n hz hn
        cases hc
        obtain ⟨m, rfl⟩ : ∃ m, n = m + 1 := ⟨n - 1, by have : n ≠ 0 := fun e => hz e; omega⟩
        exact .v (sim_faddr I hu hg' hn (hr x))
    · cases hc
  case field s x f =>
    split at hc
    · rename_i fs hu
      obtain ⟨g, hg', hc⟩ := Option.bind_eq_some_iff.1 hc
      obtain ⟨ag, hag, hc⟩ := Option.bind_eq_some_iff.1 hc
      cases hc
      exact .v (sim_field I hu hg' hag (hr x))
    · cases hc
  case indexAddr t x i =>
    split at hc
    · rename_i e hu
      obtain ⟨s, hs, hc⟩ := Option.bind_eq_some_iff.1 hc
      cases hc
      exact .v (sim_iaddrS I hu hs (hr x) (hr i))
    · rename_i n e hu
      obtain ⟨s, hs, hc⟩ := Option.bind_eq_some_iff.1 hc
      cases hc
      exact .v (sim_iaddrA I hu hs (hr x) (hr i))
    · cases hc
  case index t x i =>
    split at hc
    · rename_i n e hu
      obtain ⟨s, hs, hc⟩ := Option.bind_eq_some_iff.1 hc
      obtain ⟨ag, hag, hc⟩ := Option.bind_eq_some_iff.1 hc
      cases hc
      exact .v (sim_idxA I hu hs hag (hr x) (hr i))
    · rename_i hu
      cases hc
      exact .v (sim_idxS I hu (hr x) (hr i))
    · cases hc
  case lookup t x i ok =>
    split at hc
    · rename_i k e hu
      obtain ⟨q, hq, hc⟩ := Option.bind_eq_some_iff.1 hc
      obtain ⟨z, hz, hc⟩ := Option.bind_eq_some_iff.1 hc
      cases hc
      refine .v (sim_look I hu hq hz (fun b e => ?_) (hr x) (hr i))
      simp only [foot, e, Foot] at hX
      exact hX b (by simp)
    · cases hc
  case mapUpdate t m k x =>
    split at hc
    · rename_i kt e hu
      obtain ⟨q, hq, hc⟩ := Option.bind_eq_some_iff.1 hc
      cases hc
      refine .u (sim_mupd I hu hq (fun b e => ?_) (hr m) (hr k) (hr x))
      simp only [foot, e, Foot] at hX
      exact hX b (by simp)
    · cases hc
  case insert t m k x =>
    split at hc
    · rename_i kt e hu
      obtain ⟨q, hq, hc⟩ := Option.bind_eq_some_iff.1 hc
      cases hc
      refine .u (sim_mupd I hu hq (fun b e => ?_) (hr m) (hr k) (hr x))
      simp only [foot, e, Foot] at hX
      exact hX b (by simp)
    · cases hc
  case mapEntry t m k =>
    split at hc
    · rename_i kt e hu
      obtain ⟨q, hq, hc⟩ := Option.bind_eq_some_iff.1 hc
      obtain ⟨z, hz, hc⟩ := Option.bind_eq_some_iff.1 hc
      cases hc
      refine .v (sim_ment I hu hq hz (fun b e => ?_) (hr m) (hr k))
      simp only [foot, e, Foot] at hX
      exact hX b (by simp)
    · cases hc
  case entryStore t m s x =>
    split at hc
    · rename_i kt e hu
      obtain ⟨q, hq, hc⟩ := Option.bind_eq_some_iff.1 hc
      cases hc
      refine .u (sim_estore I (fun b e => ?_) (hr m) (hr s) (hr x))
      simp only [foot, e, Foot] at hX
      exact hX b (by simp)
    · cases hc
  case typeAssert x xt t ok =>
    split at hc
    · cases hc
    · cases hc
    · rename_i d hni hu
      obtain ⟨z, hz, hc⟩ := Option.bind_eq_some_iff.1 hc
      cases hc
      exact .v (sim_assert I hu (fun ms e => hni ms e) hz (hr x))
  case extract x i => subst hc; exact .v (sim_extract I (hr x))
  case call c => exact absurd hop (hcall c)
  case panic x =>
    subst hc
    simp only [simpleOp]
    generalize hg' : (opd x).get C env = tx
    have hx := hr x
    rw [hg'] at hx
    generalize a.eval x = v at hx
    cases hx <;> try trivial
    rename_i t v tv hv
    exact ⟨.iface t v, w, ρ, by simp [Instr.panic, goPanic, Result.andThen], .iface hv, I.more (fun _ hb => hb), Post.refl ρ h w⟩

theorem list_map_one {α β : Type} {f : α → β} {l : List α} {y : β} (h : l.map f = [y]) : ∃ x, l = [x] ∧ f x = y := by
  cases l with
  | nil => simp at h
  | cons x l => cases l <;> simp at h; exact ⟨x, rfl, h⟩
theorem list_map_two {α β : Type} {f : α → β} {l : List α} {y z : β} (h : l.map f = [y, z]) : ∃ x x', l = [x, x'] ∧ f x = y ∧ f x' = z := by
  cases l with
  | nil => simp at h
  | cons x l =>
    cases l with
    | nil => simp at h
    | cons x' l => cases l <;> simp at h; exact ⟨x, x', rfl, h.1, h.2⟩

theorem sim_appendOp (I : Inv P X ρ h w) {t u T e : TypeId} {i : TypeInfo} {z : Value} (hu : P.underlying t = some (.slice e)) (hi : P.info? e = some i) (hz : i.zero = some z) (hzs : z.cells.size = i.size) (hk : (∃ e', P.underlying u = some (.slice e')) ∨ P.underlying u = some .string)
    (hX : ∀ b, X b) {x y : Value} {tx ty : V} (hx : VRel ρ w x tx) (hy : VRel ρ w y ty) :
    SimS P X ρ h w ((Builtin.append_ #[t, u] T #[x, y]).run P w) (match (generalizing := false) sliceCells h i.size ty, lenV ty with
      | some new, some k => appendE h e i.size i.bytes new k tx
      | _, _ => .fail) := by
  cases hs : sliceCells h i.size ty with
  | none => trivial
  | some new =>
    cases hl : lenV ty with
    | none => trivial
    | some k =>
      simp only
      by_cases hg : (Nat.beq i.size 0 || Nat.beq i.bytes 0 || !new.all V.okCell) = true
      · unfold appendE
        rw [hg]
        trivial
      · simp only [Bool.or_eq_true, not_or, nbeq, decide_eq_true_eq, Bool.not_eq_true', Bool.not_eq_false] at hg
        obtain ⟨news, hsrc, hrel⟩ := src_of I hk hy hs hl (fun b _ _ _ _ _ _ _ => hX b) hg.1.1 hg.2
        exact sim_append I hu hi hz hzs hX hx hsrc hrel

theorem sim_builtin {C : Ctx} {a : Act} {env : Env} (I : Inv P X ρ h w) (he : ERel ρ w a.tmps env) (hg : Globs ρ w C)
    {o : Oper} {c : Go.Call} {b : Builtin} {eop : EOp} (ho : o.op = .call c) (hcb : c.callee = .builtin b) (hc : compOp P o = some eop) (hX : Foot X (foot C env eop)) : OpRun P X ρ h w ((execOp a.eval o).run P w) (simpleOp C env h eop) := by
  have hr := fun x => opd_rel (C := C) he hg x
  obtain ⟨cs, hcs⟩ := builtin_run (P := P) (w := w) b c o.type a hcb
  unfold execOp
  rw [ho]
  simp only [compOp, ho, compCall, hcb] at hc
  simp only at hcs ⊢
  rw [hcs]
  unfold compBuiltin at hc
  split at hc
  · rename_i x t hargs htys
    obtain ⟨x', hx', rfl⟩ := list_map_one hargs
    have e1 := list_one hx'
    have e2 := list_one htys
    rw [e1, e2]
    have hmap : (#[x'].map a.eval) = #[a.eval x'] := by simp
    rw [hmap]
    unfold builtin
    simp only
    have h0 : (#[t] : Array TypeId)[0]? = some t := rfl
    split at hc
    · rename_i n e hu; cases hc; exact .v (sim_lenArr I h0 hu)
    · rename_i u hu
      split at hc <;> cases hc
      rename_i n e hu'
      exact .v (sim_lenArrP I h0 hu hu')
    · rename_i hu; cases hc; exact .v (sim_lenStr I h0 hu (hr x'))
    · rename_i e hu; cases hc; exact .v (sim_lenSl I h0 hu (hr x'))
    · rename_i k e hu
      cases hc
      refine .v (sim_lenMap I h0 hu (fun b e => ?_) (hr x'))
      simp only [foot, e, Foot] at hX
      exact hX b (by simp)
    · cases hc
  · rename_i x t hargs htys
    obtain ⟨x', hx', rfl⟩ := list_map_one hargs
    rw [list_one hx', list_one htys, show (#[x'].map a.eval) = #[a.eval x'] by simp]
    unfold builtin
    simp only
    split at hc <;> cases hc
    rename_i e hu
    exact .v (sim_cap I rfl hu (hr x'))
  · rename_i x y t u hargs htys
    obtain ⟨x', y', hx', rfl, rfl⟩ := list_map_two hargs
    rw [list_two hx', list_two htys, show (#[x', y'].map a.eval) = #[a.eval x', a.eval y'] by simp]
    unfold builtin
    simp only
    split at hc
    · rename_i e k hu hu'
      obtain ⟨i, hi, hc⟩ := Option.bind_eq_some_iff.1 hc
      obtain ⟨z, hz, hc⟩ := Option.bind_eq_some_iff.1 hc
      split at hc
      · cases hc
      rename_i hzs
      cases hc
      simp only [ne_eq, Decidable.not_not] at hzs
      refine .v ?_
      simp only [simpleOp]
      have hx := hr x'
      have hy := hr y'
      generalize (opd x').get C env = tx at hx ⊢
      generalize (opd y').get C env = ty at hy ⊢
      generalize a.eval x' = vx at hx ⊢
      generalize a.eval y' = vy at hy ⊢
      cases hx <;> try trivial
      cases hn : asNat ty with
      | none => trivial
      | some n =>
        obtain ⟨k', rfl, _⟩ := asNat_rel hy hn
        simp only [nbeq, Bool.cond_eq_ite, Bool.or_eq_true, decide_eq_true_eq, Bool.not_eq_true']
        split
        · trivial
        · rename_i hno
          simp only [not_or, Bool.not_eq_false] at hno
          exact sim_zeros I hu hu' hi hz hzs hno.1.1.1 hno.1.1.2 hno.1.2 hno.2
    · rename_i e e' hu hu'
      obtain ⟨i, hi, hc⟩ := Option.bind_eq_some_iff.1 hc
      obtain ⟨z, hz, hc⟩ := Option.bind_eq_some_iff.1 hc
      split at hc
      · cases hc
      rename_i hzs
      cases hc
      simp only [ne_eq, Decidable.not_not] at hzs
      exact .v (sim_appendOp I hu hi hz hzs (.inl ⟨_, hu'⟩) hX (hr x') (hr y'))
    · rename_i e hu hu'
      obtain ⟨i, hi, hc⟩ := Option.bind_eq_some_iff.1 hc
      obtain ⟨z, hz, hc⟩ := Option.bind_eq_some_iff.1 hc
      split at hc
      · cases hc
      rename_i hzs
      cases hc
      simp only [ne_eq, Decidable.not_not] at hzs
      exact .v (sim_appendOp I hu hi hz hzs (.inr hu') hX (hr x') (hr y'))
    · cases hc
  · rename_i x y t u hargs htys
    obtain ⟨x', y', hx', rfl, rfl⟩ := list_map_two hargs
    rw [list_two hx', list_two htys, show (#[x', y'].map a.eval) = #[a.eval x', a.eval y'] by simp]
    unfold builtin
    simp only
    split at hc
    · rename_i e hu
      obtain ⟨s, hs, hc⟩ := Option.bind_eq_some_iff.1 hc
      split at hc <;> cases hc
      rename_i h0
      exact .v (sim_copy I hu hs h0 hX (hr x') (hr y'))
    · cases hc
  · rename_i x t hargs htys
    obtain ⟨x', hx', rfl⟩ := list_map_one hargs
    rw [list_one hx', list_one htys, show (#[x'].map a.eval) = #[a.eval x'] by simp]
    unfold builtin
    simp only
    split at hc
    · rename_i e hu
      obtain ⟨i, hi, hc⟩ := Option.bind_eq_some_iff.1 hc
      obtain ⟨z, hz, hc⟩ := Option.bind_eq_some_iff.1 hc
      split at hc <;> cases hc
      exact .v (sim_clear I hu hi hz hX (hr x'))
    · cases hc
  · rename_i x l hargs
    obtain ⟨x', l', hx', rfl, rfl⟩ : ∃ x' l', c.args.toList = x' :: l' ∧ opd x' = x ∧ l'.map opd = l := by
      cases hcl : c.args.toList with
      | nil => rw [hcl] at hargs; cases hargs
      | cons x' l' => rw [hcl] at hargs; cases hargs; exact ⟨x', l', rfl, rfl, rfl⟩
    cases hc
    have harr : (c.args.map a.eval) = ((a.eval x') :: l'.map a.eval).toArray := by
      apply Array.ext'
      simp [hx']
    rw [harr]
    unfold builtin
    refine .v ?_
    have := sim_minmax I (a := #[]) (T := 0) (mx := true) (hr x') (opds_rel (C := C) he hg l')
    simp only [simpleOp, List.map_cons]
    exact this
  · rename_i x l hargs
    obtain ⟨x', l', hx', rfl, rfl⟩ : ∃ x' l', c.args.toList = x' :: l' ∧ opd x' = x ∧ l'.map opd = l := by
      cases hcl : c.args.toList with
      | nil => rw [hcl] at hargs; cases hargs
      | cons x' l' => rw [hcl] at hargs; cases hargs; exact ⟨x', l', rfl, rfl, rfl⟩
    cases hc
    have harr : (c.args.map a.eval) = ((a.eval x') :: l'.map a.eval).toArray := by
      apply Array.ext'
      simp [hx']
    rw [harr]
    unfold builtin
    refine .v ?_
    have := sim_minmax I (a := #[]) (T := 0) (mx := false) (hr x') (opds_rel (C := C) he hg l')
    simp only [simpleOp, List.map_cons]
    exact this
  · rename_i x t hargs
    obtain ⟨x', hx', rfl⟩ := list_map_one hargs
    rw [list_one hx', show (#[x'].map a.eval) = #[a.eval x'] by simp]
    cases hc
    unfold builtin
    exact .v (sim_sliceData I (hr x'))
  · rename_i x y t u hargs htys
    obtain ⟨x', y', hx', rfl, rfl⟩ := list_map_two hargs
    rw [list_two hx', list_two htys, show (#[x', y'].map a.eval) = #[a.eval x', a.eval y'] by simp]
    unfold builtin
    simp only
    split at hc
    · rename_i e hu
      split at hc <;> cases hc
      rename_i h1
      exact .v (sim_unsafeStr I hu h1 hX (hr x') (hr y'))
    · cases hc
  · rename_i x t hargs
    obtain ⟨x', hx', rfl⟩ := list_map_one hargs
    rw [list_one hx', show (#[x'].map a.eval) = #[a.eval x'] by simp]
    cases hc
    unfold builtin
    simp only [simpleOp]
    have hx := hr x'
    generalize (opd x').get C env = tx at hx ⊢
    generalize a.eval x' = v at hx ⊢
    cases hx <;> try trivial
    rename_i t v tv hv
    exact ⟨.iface t v, w, ρ, by simp [Instr.panic, goPanic, Result.andThen], .iface hv, I.more (fun _ hb => hb), Post.refl ρ h w⟩
  · cases hc

end Go.E
