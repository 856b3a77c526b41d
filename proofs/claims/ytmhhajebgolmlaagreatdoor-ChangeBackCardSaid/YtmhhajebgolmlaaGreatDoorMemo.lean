/- Facts of functions, kept and used. -/
import Derived.Test.YtmhhajebgolmlaaGreatDoorAll
set_option linter.unusedSimpArgs false
set_option linter.unusedVariables false
namespace Go.E
variable {P : Program}

/-! ### Values held against each other -/
def sameN : List Nat → List Nat → Bool
  | [], [] => true
  | a :: l, b :: m => Nat.beq a b && sameN l m
  | _, _ => false

theorem sameN_eq : ∀ (a b : List Nat), sameN a b = true → a = b
  | [], [], _ => rfl
  | a :: l, b :: m, h => by
    simp only [sameN, Bool.and_eq_true, nbeq, decide_eq_true_eq] at h
    rw [h.1, sameN_eq l m h.2]
  | [], _ :: _, h => by cases h
  | _ :: _, [], h => by cases h

mutual
def sameV : V → V → Bool
  | .bool a, .bool b => a == b
  | .int k a, .int k' b => decide (k = k') && a == b
  | .str a, .str b => sameN a b
  | .pnil, .pnil | .snil, .snil | .mnil, .mnil | .nilFunc, .nilFunc | .nilIface, .nilIface => true
  | .pimm a, .pimm b => sameVs a b
  | .simm a n x, .simm b m y => Nat.beq n m && x == y && sameVs a b
  | .func (.func f) a b, .func (.func g) c d => Nat.beq f g && sameVs a c && sameVs b d
  | .iface t v, .iface u w => Nat.beq t u && sameV v w
  | .agg a, .agg b => sameVs a b
  | .tup a, .tup b => sameVs a b
  | _, _ => false
def sameVs : List V → List V → Bool
  | [], [] => true
  | a :: l, b :: m => sameV a b && sameVs l m
  | _, _ => false
end

mutual
theorem sameV_eq : ∀ (a b : V), sameV a b = true → a = b
  | .bool a, b, h => by cases b <;> simp [sameV] at h; rw [h]
  | .int k a, b, h => by cases b <;> simp [sameV] at h; rw [h.1, h.2]
  | .str a, b, h => by cases b <;> simp [sameV] at h; rw [sameN_eq _ _ h]
  | .pnil, b, h => by cases b <;> simp [sameV] at h; rfl
  | .snil, b, h => by cases b <;> simp [sameV] at h; rfl
  | .mnil, b, h => by cases b <;> simp [sameV] at h; rfl
  | .nilFunc, b, h => by cases b <;> simp [sameV] at h; rfl
  | .nilIface, b, h => by cases b <;> simp [sameV] at h; rfl
  | .pimm a, b, h => by cases b <;> simp [sameV] at h; rw [sameVs_eq _ _ h]
  | .simm a n x, b, h => by
    cases b <;> simp [sameV] at h
    rw [h.1.1, h.1.2, sameVs_eq _ _ h.2]
  | .func f a b, c, h => by
    cases f <;> cases c <;> try (simp [sameV] at h; done)
    rename_i g _ _
    cases g <;> simp [sameV] at h
    rw [h.1.1, sameVs_eq _ _ h.1.2, sameVs_eq _ _ h.2]
  | .iface t v, b, h => by
    cases b <;> simp [sameV] at h
    rw [h.1, sameV_eq _ _ h.2]
  | .agg a, b, h => by cases b <;> simp [sameV] at h; rw [sameVs_eq _ _ h]
  | .tup a, b, h => by cases b <;> simp [sameV] at h; rw [sameVs_eq _ _ h]
  | .junk, b, h => by simp [sameV] at h
  | .ptr .., b, h => by simp [sameV] at h
  | .sl .., b, h => by simp [sameV] at h
  | .map _, b, h => by simp [sameV] at h
  | .stamp .., b, h => by simp [sameV] at h
theorem sameVs_eq : ∀ (a b : List V), sameVs a b = true → a = b
  | [], [], _ => rfl
  | a :: l, b :: m, h => by
    simp only [sameVs, Bool.and_eq_true] at h
    rw [sameV_eq _ _ h.1, sameVs_eq _ _ h.2]
  | [], _ :: _, h => by simp [sameVs] at h
  | _ :: _, [], h => by simp [sameVs] at h
end

/-! ### Facts, kept -/
abbrev Entry := Nat × List V × V

def memoIn (f : Nat) (args : List V) : List Entry → Option V
  | [] => none
  | (g, a, v) :: T => bif Nat.beq f g && sameVs a args then some v else memoIn f args T

theorem memoIn_mem {f : Nat} {args : List V} {v : V} : ∀ {T : List Entry}, memoIn f args T = some v → (f, args, v) ∈ T
  | [], h => by cases h
  | (g, a, u) :: T, h => by
    simp only [memoIn, Bool.cond_eq_ite, Bool.and_eq_true, nbeq, decide_eq_true_eq] at h
    split at h
    · rename_i hh
      cases h
      rw [hh.1, sameVs_eq _ _ hh.2]
      simp
    · exact List.mem_cons_of_mem _ (memoIn_mem h)

/-- what E is told of a program, but for the facts -/
structure Lore where
  glob : Nat → List V
  meth : List (Nat × String × Nat)
  spec : Nat → Option Sp
  apart : Nat → Bool

def methIn (t : Nat) (m : String) : List (Nat × String × Nat) → Option Nat
  | [] => none
  | (u, n, f) :: l => bif Nat.beq t u && decide (m = n) then some f else methIn t m l

theorem methIn_mem {t : Nat} {m : String} {f : Nat} : ∀ {l : List (Nat × String × Nat)}, methIn t m l = some f → (t, m, f) ∈ l
  | [], h => by cases h
  | (u, n, g) :: l, h => by
    simp only [methIn, Bool.cond_eq_ite, Bool.and_eq_true, nbeq, decide_eq_true_eq] at h
    split at h
    · rename_i hh
      cases h
      rw [hh.1, hh.2]
      simp
    · exact List.mem_cons_of_mem _ (methIn_mem h)

def Lore.ctx (P : Program) (o : Lore) (memo : Nat → List V → Option V) : Ctx :=
  { func := fun i => (P.funcs[i]?).bind (compFunc P), glob := o.glob, meth := fun t m => methIn t m o.meth, spec := o.spec, lies := fun e n off t => liesAt P P.depth e (n / P.cellsOf e) off t 1, apart := o.apart, memo := memo }

/-- what is to be shown of a program, once -/
structure Lore.Ok (P : Program) (o : Lore) : Prop where
  mixed : P.follows .mixedOrders = true
  names : (P.funcs.all fun fn => !(fn.name == "runtime.NumGoroutine")) = true
  closed : ∀ g, closeds (o.glob g) = true
  meth : ∀ e ∈ o.meth, ∀ (v : Value) (w : World), (Go.method (P.types.size + Made.depth) e.1 v e.2.1).run P w = .ok (e.2.2, v) w
  noEscape : ∀ f, o.spec f = some .noEscape → NoEscapeOk P f
  indexByte : ∀ f, o.spec f = some .indexByteString → IndexByteOk P f
  index : ∀ f mx, o.spec f = some (.index mx) → IndexOk P o.glob f mx
  try_ : ∀ f, o.spec f = some .try_ → Nonempty (TryShape P f)

theorem Lore.Ok.good {o : Lore} (k : o.Ok P) {memo : Nat → List V → Option V} (hm : ∀ f args v, memo f args = some v → Fact P o.glob f args v) : Good' P (o.ctx P memo) where
  ctx := { lies := fun _ _ _ _ h => h, meth := fun t m f h => k.meth (t, m, f) (methIn_mem h) }
  funcs := ⟨fun f efn h => by
    simp only [Lore.ctx, Option.bind_eq_some_iff] at h
    obtain ⟨fn, h1, h2⟩ := h
    refine ⟨fn, h1, h2, ?_⟩
    have h3 := Array.all_eq_true_iff_forall_mem.1 k.names fn (Array.mem_of_getElem? h1)
    simpa using h3⟩
  mixed := k.mixed
  memo := { fact := hm, closed := k.closed }
  noEscape := k.noEscape
  indexByte := k.indexByte
  index := k.index
  try_ := k.try_

/-- a run, as a test -/
def runs (C : Ctx) (n : Nat) (e : Entry) : Bool :=
  match C.func e.1 with
  | some fn => (match body C (callN C n) n fn e.2.1 H.new with
    | .ok v h => (match resolve 1000 h v with
      | some (u, _) => sameV u e.2.2
      | none => false)
    | _ => false)
  | none => false

theorem fact_of_runs {o : Lore} (k : o.Ok P) {memo : Nat → List V → Option V} (hm : ∀ f args v, memo f args = some v → Fact P o.glob f args v) {n : Nat} {e : Entry} (h : runs (o.ctx P memo) n e = true) : Fact P o.glob e.1 e.2.1 e.2.2 := by
  unfold runs at h
  split at h
  · rename_i fn hf
    split at h
    · rename_i v hh hb
      split at h
      · rename_i u bs hr
        rw [← sameV_eq _ _ h]
        exact fact_by_run (k.good hm) hf hb hr
      · cases h
    · cases h
  · cases h

/-- of facts more facts -/
theorem facts_more {o : Lore} (k : o.Ok P) {T : List Entry} (hT : ∀ e ∈ T, Fact P o.glob e.1 e.2.1 e.2.2) {n : Nat} {U : List Entry} (h : (U.all fun e => runs (o.ctx P fun f args => memoIn f args T) n e) = true) : ∀ e ∈ U, Fact P o.glob e.1 e.2.1 e.2.2 :=
  fun e he => fact_of_runs k (fun _ _ _ hm => hT _ (memoIn_mem hm)) (List.all_eq_true.1 h e he)

end Go.E
