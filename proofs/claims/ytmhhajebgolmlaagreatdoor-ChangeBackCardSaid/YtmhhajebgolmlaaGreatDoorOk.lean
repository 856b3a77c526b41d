/- What the plain machine asks of the program is so. -/
import Derived.Test.YtmhhajebgolmlaaGreatDoorFactC
import Derived.Test.YtmhhajebgolmlaaGreatDoorLives
import Derived.KernelRfl
import Derived.Shelf.LaysM
import Derived.Shelf.Strings.Search2
import Derived.Laws.Externs
import Derived.Test.YtmhhajebgolmlaaGreatDoorProg
set_option linter.unusedSimpArgs false
set_option linter.unusedVariables false
namespace Go.Proofs
open Go.Shelf
/-- the numbers of Go's own stringslite.Index and of what it calls -/
def numbers219 : Ren where
  f := fun x => match x with
    | 217 => 388
    | 219 => 460
    | 224 => 488
    | 225 => 487
    | 266 => 438
    | 267 => 489
    | 314 => 503
    | n => n
  t := fun x => match x with
    | 3 => 3
    | 4 => 4
    | 5 => 5
    | 9 => 9
    | 46 => 306
    | 51 => 108
    | 146 => 570
    | n => n
  g := fun x => match x with
    | 1 => 4
    | n => n
theorem lays219 : LaysM.n219 Tryz.prog numbers219 where
  mixed := by kernel_rfl
  f217 := Tryz.func388.trans (congrArg some (by kernel_rfl))
  f219 := Tryz.func460.trans (congrArg some (by kernel_rfl))
  f224 := Tryz.func488.trans (congrArg some (by kernel_rfl))
  f225 := Tryz.func487.trans (congrArg some (by kernel_rfl))
  f266 := Tryz.func438.trans (congrArg some (by kernel_rfl))
  f267 := Tryz.func489.trans (congrArg some (by kernel_rfl))
  f314 := Tryz.func503.trans (congrArg some (by kernel_rfl))
  t3 := Tryz.underlying3
  a3 := Tryz.isAgg3
  z3 := Tryz.sizeOf3
  v3 := Tryz.zeroValue3
  i3 := by kernel_rfl
  t4 := Tryz.underlying4
  a4 := Tryz.isAgg4
  z4 := Tryz.sizeOf4
  v4 := Tryz.zeroValue4
  i4 := by kernel_rfl
  t5 := Tryz.underlying5
  a5 := Tryz.isAgg5
  z5 := Tryz.sizeOf5
  v5 := Tryz.zeroValue5
  i5 := by kernel_rfl
  t9 := Tryz.underlying9
  a9 := Tryz.isAgg9
  z9 := Tryz.sizeOf9
  v9 := Tryz.zeroValue9
  i9 := by kernel_rfl
  t46 := Tryz.underlying306
  a46 := Tryz.isAgg306
  z46 := Tryz.sizeOf306
  v46 := Tryz.zeroValue306
  i46 := by kernel_rfl
  t51 := Tryz.underlying108
  a51 := Tryz.isAgg108
  z51 := Tryz.sizeOf108
  v51 := Tryz.zeroValue108
  i51 := by kernel_rfl
  t146 := Tryz.underlying570
  a146 := Tryz.isAgg570
  z146 := Tryz.sizeOf570
  v146 := Tryz.zeroValue570
  i146 := by kernel_rfl
  g1 := by kernel_rfl
  m1 := by kernel_rfl
  s1_3 := fun w h => cell_of_shapedOpen_int (t := 3) (zero := #[.int .i64 0]) h (of_decide_eq_true (by kernel_rfl)) (by kernel_rfl) rfl (by kernel_rfl) (by kernel_rfl) Tryz.underlying3
end Go.Proofs
namespace Go.E.Lives
open Go Go.E Go.Proofs
set_option maxRecDepth 100000

theorem noEscape : NoEscapeOk Tryz.prog 83 := fun x w => by
  rw [run_callFunc_extern (P := Tryz.prog) (f := 83) (fn := Tryz.f83) (e := Extern.AbiNoEscape.same) Tryz.func83 (by kernel_rfl) (by kernel_rfl) (by kernel_rfl) (by kernel_rfl)]
  rfl
theorem indexByte : IndexByteOk Tryz.prog 438 := fun s c w => by
  rw [run_callFunc_extern (P := Tryz.prog) (f := 438) (fn := Tryz.f438) (e := Extern.BytealgIndexByte.indexByte) Tryz.func438 (by kernel_rfl) (by kernel_rfl) (by kernel_rfl) (by kernel_rfl), run_indexByte_string]
  rfl
theorem index (m : Int) : IndexOk Tryz.prog (glob m) 460 4 where
  enters := enters_of Tryz.func460 (by kernel_rfl) rfl
  holds := ⟨m, rfl, fun s sub w hs hm => callsIn_wide.2 (Any.stringslite_Index { lays219 with } s sub m w hs hm)⟩

def opsIn : Code → List Oper
  | .region _ ops _ => ops.toList
  | .seq a b => opsIn a ++ opsIn b
  | _ => []
noncomputable def opOf (fn : Func) (k : Nat) : Oper := ((opsIn (fn.body.getD .skip))[k]?).getD ⟨none, .move (.tmp 0), 0, "", #[], none⟩
noncomputable def o0 : Oper := opOf Tryz.f154 0
noncomputable def o1 : Oper := opOf Tryz.f154 1
noncomputable def o2 : Oper := opOf Tryz.f154 2
noncomputable def o3 : Oper := opOf Tryz.f154 3
noncomputable def o4 : Oper := opOf Tryz.f154 4
noncomputable def o5 : Oper := opOf Tryz.f154 5
noncomputable def q0 : Oper := opOf Tryz.f241 0
noncomputable def q1 : Oper := opOf Tryz.f241 1
noncomputable def q2 : Oper := opOf Tryz.f241 2
noncomputable def q3 : Oper := opOf Tryz.f241 3
theorem emptyMap (e : Operand → Value) : Array.map e #[] = #[] := by simp
theorem oneMap (e : Operand → Value) (x : Operand) : Array.map e #[x] = #[e x] := by simp
def restOf : Code → Code
  | .seq _ (.seq _ (.cond _ r _)) => r
  | _ => .skip

noncomputable def tryShape : TryShape Tryz.prog 154 where
  fn := Tryz.f154
  gn := Tryz.f241
  g := 241
  T := 4
  o0 := o0
  o1 := o1
  o2 := o2
  o3 := o3
  o4 := o4
  o5 := o5
  q0 := q0
  q1 := q1
  q2 := q2
  q3 := q3
  i0 := 0
  i1 := 1
  i2 := 2
  i3 := 3
  j0 := 0
  j1 := 1
  rest := restOf (Tryz.f241.body.getD .skip)
  hf := Tryz.func154
  hb := rfl
  hn := rfl
  hr := rfl
  hname := by kernel_rfl
  hg := Tryz.func241
  hgb := rfl
  hgn := rfl
  hgr := rfl
  hgname := by kernel_rfl
  hT := by kernel_rfl
  hsT := by kernel_rfl
  d := ⟨rfl, rfl, rfl, rfl, rfl, rfl, rfl, rfl, rfl, rfl⟩
  gu := ⟨rfl, rfl, rfl, rfl, rfl, rfl, rfl, rfl, rfl, rfl⟩
  r0 := fun e w => by kernel_rfl
  r1 := fun e w => by
    show ((do pure (.value (← Instr.makeFunc (Fn.func 241) (Array.map e #[]) (Array.map e #[Operand.tmp 4]))) : Sem Next)).run Tryz.prog w = _
    rw [emptyMap, oneMap]
    rfl
  r2 := fun e w x h => by
    show ((do pure (.defer (← Go.resolve e { callee := Callee.value (Operand.tmp 5), args := #[], argTypes := #[] } 0)) : Sem Next)).run Tryz.prog w = _
    simp only [Go.resolve, h, Deferred.ofValue, emptyMap]
    rfl
  r3 := fun e w => rfl
  r4 := fun e w => by
    show ((do let d ← Go.resolve e { callee := Callee.value (Operand.tmp 6), args := #[], argTypes := #[] } 0; invoke d.target d.args : Sem Next)).run Tryz.prog w = _
    simp only [Go.resolve, emptyMap]
  nd := ⟨fun c h => (by cases h), fun c h => (by cases h), fun c h => (by cases h), fun c h => (by cases h)⟩
  r2o := ⟨_, rfl⟩
  r5 := rfl
  k0 := fun e w => rfl
  k1 := fun e w => rfl
  k2 := fun e w => rfl
  k3 := fun e w h h' => by
    show ((do pure (.value (← (do eqGuard .neq 20 (Operand.tmp 3) (Operand.const Value.nilIface) (e (Operand.tmp 3)) (e (Operand.const Value.nilIface)); binOp .neq 20 (e (Operand.tmp 3)) (e (Operand.const Value.nilIface)) : Sem Value))) : Sem Next)).run Tryz.prog w = _
    rw [h, h']
    rfl

theorem closedGlob (m : Int) : ∀ g, closeds (glob m g) = true := fun g => by
  unfold glob
  cases Nat.beq g 2 with
  | true => exact (by kernel_rfl : closeds asciiSpace = true)
  | false => cases Nat.beq g 4 <;> rfl

theorem spec_cases (f : Nat) (s : Sp) (h : spec f = some s) : (f = 83 ∧ s = .noEscape) ∨ (f = 154 ∧ s = .try_) ∨ (f = 438 ∧ s = .indexByteString) ∨ (f = 460 ∧ s = .index 4) := by
  simp only [spec, Bool.cond_eq_ite, nbeq, decide_eq_true_eq] at h
  split at h
  · cases h; exact .inl ⟨by assumption, rfl⟩
  · split at h
    · cases h; exact .inr (.inl ⟨by assumption, rfl⟩)
    · split at h
      · cases h; exact .inr (.inr (.inl ⟨by assumption, rfl⟩))
      · split at h
        · cases h; exact .inr (.inr (.inr ⟨by assumption, rfl⟩))
        · cases h

theorem ok_of (m : Int) (o : Lore) (hg : o.glob = glob m) (hm : o.meth = []) (hs : o.spec = spec) : o.Ok Tryz.prog where
  mixed := by kernel_rfl
  names := by kernel_rfl
  closed := by rw [hg]; exact closedGlob m
  meth := by rw [hm]; intro e he; cases he
  noEscape := fun f h => by
    rw [hs] at h
    rcases spec_cases f _ h with ⟨rfl, _⟩ | ⟨_, h⟩ | ⟨_, h⟩ | ⟨_, h⟩
    · exact noEscape
    all_goals cases h
  indexByte := fun f h => by
    rw [hs] at h
    rcases spec_cases f _ h with ⟨_, h⟩ | ⟨_, h⟩ | ⟨rfl, _⟩ | ⟨_, h⟩
    · cases h
    · cases h
    · exact indexByte
    · cases h
  index := fun f mx h => by
    rw [hs] at h
    rcases spec_cases f _ h with ⟨_, h⟩ | ⟨_, h⟩ | ⟨_, h⟩ | ⟨rfl, h⟩
    · cases h
    · cases h
    · cases h
    · cases h; rw [hg]; exact index m
  try_ := fun f h => by
    rw [hs] at h
    rcases spec_cases f _ h with ⟨_, h⟩ | ⟨rfl, _⟩ | ⟨_, h⟩ | ⟨_, h⟩
    · cases h
    · exact ⟨tryShape⟩
    · cases h
    · cases h
theorem told_ok (m : Int) : (told m).Ok Tryz.prog := ok_of m _ rfl rfl rfl
theorem toldChanges_ok (m : Int) : (toldChanges m).Ok Tryz.prog := ok_of m _ rfl rfl rfl
end Go.E.Lives
