/- What the functions that pack and unpack come to, first part. -/
import Derived.Test.YtmhhajebgolmlaaGreatDoorFn
set_option linter.unusedSimpArgs false
set_option linter.unusedVariables false
namespace Go.E

/-! ### A run over values that are not all known -/
theorem R.bind_ok {α β : Type} (a : α) (h : H) (f : α → H → R β) : (R.ok a h).bind f = f a h := rfl
theorem gs (e : Env) (a b : Nat) (v : V) (ha : a < 512) (hb : b < 512) : (e.set (ix a) v).get (ix b) = if a = b then v else e.get (ix b) := by
  rw [Env.get_set]
  by_cases h : a = b
  · subst h; simp
  · rw [if_neg h, if_neg (fun hh => h (ix_inj ha hb hh))]

theorem args1 (v : V) : Env.args .none 0 [v] = Env.none.set (ix 0) v := rfl
theorem args2 (v u : V) : Env.args .none 0 [v, u] = (Env.none.set (ix 0) v).set (ix 1) u := rfl
theorem env_set (e : Env) (a : Nat) (v : V) : put e (some (ix a)) v = e.set (ix a) v := rfl
theorem put_none (e : Env) (v : V) : put e none v = e := rfl
theorem opd_tmp (C : Ctx) (e : Env) (i : Ix) : (Opd.tmp i).get C e = e.get i := rfl
theorem opd_const (C : Ctx) (e : Env) (v : V) : (Opd.const v).get C e = v := rfl
theorem wanted_none (e : Env) : wanted e none = some true := rfl
theorem new_get (b : Nat) : H.new.get b = none := by simp [H.new, H.get, T.get]
theorem new_size : H.new.size = 0 := rfl

section
variable (C : Ctx) (call : Call)
theorem ops_nil (env : Env) (h : H) : runOps C call [] env h = .ok env h := rfl
theorem ops_cons (d : Option Ix) (op : EOp) (l : List EOper) (env : Env) (h : H) : runOps C call (⟨d, op, none⟩ :: l) env h = (runOp C call env h op).bind fun v h => runOps C call l (put env d v) h := rfl
theorem ops_guard (d : Option Ix) (op : EOp) (t : Ix) (b c : Bool) (l : List EOper) (env : Env) (h : H) (hb : env.get t = .bool b) : runOps C call (⟨d, op, some (t, c)⟩ :: l) env h = if b = c then (runOp C call env h op).bind fun v h => runOps C call l (put env d v) h else runOps C call l (put env d (.tup [])) h := by
  simp only [runOps, wanted, hb]
  by_cases e : b = c
  · subst e; simp
  · rw [if_neg e]
    cases b <;> cases c <;> first | rfl | exact absurd rfl e
theorem code_region (fuel : Nat) (l : List EOper) (env : Env) (h : H) : runCode C call fuel (.region l) env h = (runOps C call l env h).bind fun env h => .ok (.normal, env) h := rfl
theorem code_ret (fuel : Nat) (env : Env) (h : H) : runCode C call fuel .ret env h = .ok (.ret, env) h := rfl
theorem code_skip (fuel : Nat) (env : Env) (h : H) : runCode C call fuel .skip env h = .ok (.normal, env) h := rfl
theorem code_exit (fuel i : Nat) (env : Env) (h : H) : runCode C call fuel (.exit i) env h = .ok (.exit i, env) h := rfl
/-- behind a piece of code the next -/
def andThen (r : R (Ex × Env)) (f : Env → H → R (Ex × Env)) : R (Ex × Env) := r.bind fun x h => match x.1 with
  | .normal => f x.2 h
  | ex => .ok (ex, x.2) h
theorem andThen_normal (env : Env) (h : H) (f : Env → H → R (Ex × Env)) : andThen (.ok (.normal, env) h) f = f env h := rfl
theorem andThen_ret (env : Env) (h : H) (f : Env → H → R (Ex × Env)) : andThen (.ok (.ret, env) h) f = .ok (.ret, env) h := rfl
theorem andThen_exit (i : Nat) (env : Env) (h : H) (f : Env → H → R (Ex × Env)) : andThen (.ok (.exit i, env) h) f = .ok (.exit i, env) h := rfl
theorem code_seq (fuel : Nat) (a b : ECode) (env : Env) (h : H) : runCode C call fuel (.seq a b) env h = andThen (runCode C call fuel a env h) (runCode C call fuel b) := by
  rfl
/-- at a block's end -/
def atEnd (id : Nat) (r : R (Ex × Env)) : R (Ex × Env) := r.bind fun x h => match x.1 with
  | .exit i => if i = id then .ok (.normal, x.2) h else .ok (.exit i, x.2) h
  | ex => .ok (ex, x.2) h
theorem atEnd_normal (id : Nat) (env : Env) (h : H) : atEnd id (.ok (.normal, env) h) = .ok (.normal, env) h := rfl
theorem atEnd_ret (id : Nat) (env : Env) (h : H) : atEnd id (.ok (.ret, env) h) = .ok (.ret, env) h := rfl
theorem atEnd_exit (id i : Nat) (env : Env) (h : H) : atEnd id (.ok (.exit i, env) h) = if i = id then .ok (.normal, env) h else .ok (.exit i, env) h := rfl
theorem code_block (fuel id : Nat) (c : ECode) (env : Env) (h : H) : runCode C call fuel (.block id c) env h = atEnd id (runCode C call fuel c env h) := by
  simp only [runCode, atEnd]
  congr 1
  funext x h
  obtain ⟨ex, env⟩ := x
  cases ex <;> simp [nbeq, Bool.cond_decide]
theorem code_cond (fuel : Nat) (c : Opd) (a b : ECode) (env : Env) (h : H) (t : Bool) (hc : c.get C env = .bool t) : runCode C call fuel (.cond c a b) env h = if t then runCode C call fuel a env h else runCode C call fuel b env h := by
  simp only [runCode, hc]
  cases t <;> rfl
end
/-- what a body comes to -/
def leave (rs : List ERes) (r : R (Ex × Env)) : R V := r.bind fun x h => match x.1 with
  | .exit _ => .fail
  | _ => o2r (resultsOf x.2 h rs) h
theorem leave_ret (rs : List ERes) (env : Env) (h : H) : leave rs (.ok (.ret, env) h) = o2r (resultsOf env h rs) h := rfl
theorem leave_normal (rs : List ERes) (env : Env) (h : H) : leave rs (.ok (.normal, env) h) = o2r (resultsOf env h rs) h := rfl
theorem body_eq (C : Ctx) (call : Call) (fuel : Nat) (fn : EFunc) (args : List V) (h : H) (hl : args.length ≤ fn.ntmps) : body C call fuel fn args h = leave fn.results (runCode C call fuel fn.body (Env.args .none 0 args) h) := by
  simp only [body, leave, nble, hl, decide_true, Bool.not_true, cond_false]
  rfl

/-! ### Calls -/
section
variable {C : Ctx} {n f : Nat} {fn : EFunc} {args : List V} {h : H} {v : V}
theorem call_plain (hs : C.spec f = none) (hf : C.func f = some fn) (ha : C.apart f = false) : callN C (n + 1) (.func (.func f) [] []) args h = body C (callN C n) n fn args h := by
  simp only [callN, List.nil_append, List.append_nil, hs, hf, ha, cond_false]

theorem resolves_closed (m : Nat) (hc : closeds args = true) : resolves (m + 1) h args = some (args, []) := by
  simp only [resolves, hc, cond_true]

theorem call_apart (hs : C.spec f = none) (hf : C.func f = some fn) (ha : C.apart f = true) (hm : C.memo f args = some v) (hc : closeds args = true) : callN C (n + 1) (.func (.func f) [] []) args h = .ok v h := by
  have hr : resolves 1000 h args = some (args, []) := resolves_closed 999 hc
  have hp : apartValue C (callN C n) n f fn args = some v := by
    unfold apartValue
    rw [hm]
  simp only [callN, List.nil_append, List.append_nil, hs, hf, ha, cond_true, runApart, hr, hp, freezeB]
  cases flat v <;> rfl
end
theorem iter_succ (body : Env → H → R (Ex × Env)) (n : Nat) (env : Env) (h : H) : iter body (n + 1) env h = andThen (body env h) (iter body n) := by
  rfl
theorem code_loop (C : Ctx) (call : Call) (fuel : Nat) (c : ECode) (env : Env) (h : H) : runCode C call fuel (.loop c) env h = iter (fun env h => runCode C call fuel c env h) fuel env h := by
  simp only [runCode]

/-! ### Regions whose order is open -/
/-- the marks laid back behind an operation -/
def H.back (h h' : H) : H := { h' with mark := h.mark, wr := h'.wr.filter (Nat.blt · h.mark) ++ h.wr }
theorem back_get (h h' : H) (b : Nat) : (h.back h').get b = h'.get b := rfl
theorem back_size (h h' : H) : (h.back h').size = h'.size := rfl
theorem back_mark (h h' : H) : (h.back h').mark = h.mark := rfl
theorem back_norm (h : H) : h.back h.norm = h := rfl
theorem back_norm_push (h : H) (x : Blk) : h.back (h.norm.push x) = h.push x := rfl
theorem back_norm_put (h : H) (b : Nat) (x : Blk) (hb : b < h.size) : h.back (h.norm.put b x) = h.put b x := by
  simp only [H.back, H.put, H.norm, nblt, hb, decide_true, cond_true, List.filter_cons, List.filter_nil]
  by_cases hm : b < h.mark <;> simp [hm]
theorem draw_nil (C : Ctx) (call : Call) (env : Env) (h : H) (acc : List Did) : runDraw C call [] env h acc = .ok (env, acc.reverse) h := rfl
/-- behind an operation of such a region -/
def drawn (C : Ctx) (call : Call) (d : Option Ix) (op : EOp) (rest : List EOper) (env : Env) (h : H) (acc : List Did) : R V → R (Env × List Did)
  | .ok v h' => runDraw C call rest (put env d v) (h.back h') (⟨h'.wr, footOf C env op h'.wr, tagOf C env op, v, h.size, h'.size⟩ :: acc)
  | _ => .fail
theorem drawn_ok (C : Ctx) (call : Call) (d : Option Ix) (op : EOp) (rest : List EOper) (env : Env) (h : H) (acc : List Did) (v : V) (h' : H) : drawn C call d op rest env h acc (.ok v h') = runDraw C call rest (put env d v) (h.back h') (⟨h'.wr, footOf C env op h'.wr, tagOf C env op, v, h.size, h'.size⟩ :: acc) := rfl
theorem draw_cons (C : Ctx) (call : Call) (d : Option Ix) (op : EOp) (rest : List EOper) (env : Env) (h : H) (acc : List Did) : runDraw C call (⟨d, op, none⟩ :: rest) env h acc = drawn C call d op rest env h acc (runOp C call env h.norm op) := by
  simp only [runDraw, wanted, norm_eq]
  cases runOp C call env h.norm op <;> rfl
/-- at its end -/
def drawEnd (un : List (Nat × Nat)) (r : R (Env × List Did)) : R (Ex × Env) := r.bind fun x h => if drawOk x.2 un = true then .ok (.normal, x.1) h else .fail
theorem drawEnd_ok (un : List (Nat × Nat)) (env : Env) (acc : List Did) (h : H) : drawEnd un (.ok (env, acc) h) = if drawOk acc un = true then .ok (.normal, env) h else .fail := rfl
theorem code_draw (C : Ctx) (call : Call) (fuel : Nat) (ops : List EOper) (un : List (Nat × Nat)) (env : Env) (h : H) : runCode C call fuel (.draw ops un) env h = drawEnd un (runDraw C call ops env h []) := by
  simp only [runCode, drawEnd, Bool.cond_eq_ite]
theorem ok_all (acc : List Did) (un : List (Nat × Nat)) : drawOk acc un = un.all fun p => match acc[p.1]?, acc[p.2]? with
    | some x, some y => pairOk x y
    | _, _ => false := rfl
end Go.E

namespace Go.E.Pk

/-! ### Changes as bytes, without a program -/
structure Ch where
  k : Nat
  id : List Nat
  text : List Nat
  ty : List Nat
  uid : List Nat

def right (c : Ch) : Bool :=
  if c.k = 1 ∨ c.k = 4 then c.id.isEmpty && c.ty.isEmpty && c.uid.isEmpty
  else if c.k = 2 then c.ty.isEmpty && c.uid.isEmpty
  else if c.k = 3 then c.text.isEmpty && c.ty.isEmpty && c.uid.isEmpty
  else if c.k = 5 then c.id.isEmpty && c.text.isEmpty
  else false

def long (c : Ch) : Bool := decide (2048 < c.id.length) || decide (2048 < c.text.length) || decide (2048 < c.ty.length) || decide (2048 < c.uid.length)

def le4 (n : Nat) : List Nat := [n % 256, n / 256 % 256, n / 65536 % 256, n / 16777216 % 256]
def packText (s : List Nat) : List Nat := le4 s.length ++ s
def packCh (c : Ch) : List Nat := c.k :: (packText c.id ++ (packText c.text ++ (packText c.ty ++ packText c.uid)))
def packL (l : List Ch) : List Nat := l.length :: l.flatMap packCh

def good (l : List Ch) : Bool := decide (l.length ≤ 255) && l.all right && l.all (fun c => !long c)

structure Lf where
  bytes : List Nat
  bad : Bool

def Lf.take (x : Lf) (n : Nat) : List Nat × Lf := if x.bad || decide (x.bytes.length < n) then ([], ⟨x.bytes, true⟩) else (x.bytes.take n, ⟨x.bytes.drop n, false⟩)
def Lf.byte (x : Lf) : Nat × Lf := if (x.take 1).2.bad then (0, (x.take 1).2) else ((x.take 1).1.headD 0, (x.take 1).2)
def get4 : List Nat → Nat
  | [a, b, c, d] => a + 256 * b + 65536 * c + 16777216 * d
  | _ => 0
def Lf.text (x : Lf) : List Nat × Lf :=
  let s := x.take 4
  Lf.take ⟨s.2.bytes, s.2.bad || decide (2048 < get4 s.1)⟩ (get4 s.1)
def Lf.change (x : Lf) : Ch × Lf :=
  let k := x.byte
  let a := k.2.text
  let b := a.2.text
  let c := b.2.text
  let d := c.2.text
  (⟨k.1, a.1, b.1, c.1, d.1⟩, ⟨d.2.bytes, d.2.bad || !right ⟨k.1, a.1, b.1, c.1, d.1⟩⟩)
def Lf.changes : Nat → Lf → List Ch × Lf
  | 0, x => ([], x)
  | n + 1, x => if x.bad then ([], x) else
    let c := x.change
    let l := Lf.changes n c.2
    (c.1 :: l.1, l.2)
def unpack (s : List Nat) : Option (List Ch) :=
  let n := Lf.byte ⟨s, false⟩
  let l := Lf.changes n.1 n.2
  if l.2.bad || !l.2.bytes.isEmpty then none else some l.1

def Bytes (s : List Nat) : Prop := ∀ n ∈ s, n < 256

theorem get4_le4 {n : Nat} (h : n < 4294967296) : get4 (le4 n) = n := by
  simp only [get4, le4]
  omega

theorem le4_get4 {s : List Nat} (hl : s.length = 4) (hb : Bytes s) : le4 (get4 s) = s := by
  match s, hl with
  | [a, b, c, d], _ =>
    have ha := hb a (by simp)
    have hb' := hb b (by simp)
    have hc := hb c (by simp)
    have hd := hb d (by simp)
    simp only [get4, le4, List.cons.injEq, and_true]
    omega

theorem take_ok {s t : List Nat} : Lf.take ⟨s ++ t, false⟩ s.length = (s, ⟨t, false⟩) := by
  simp [Lf.take]

theorem byte_ok {b : Nat} {t : List Nat} : Lf.byte ⟨b :: t, false⟩ = (b, ⟨t, false⟩) := by
  simp [Lf.byte, Lf.take]

theorem text_ok {s t : List Nat} (h : s.length ≤ 2048) : Lf.text ⟨packText s ++ t, false⟩ = (s, ⟨t, false⟩) := by
  have h1 : Lf.take ⟨packText s ++ t, false⟩ 4 = (le4 s.length, ⟨s ++ t, false⟩) := by
    have := take_ok (s := le4 s.length) (t := s ++ t)
    simpa [packText, le4] using this
  simp only [Lf.text, h1, get4_le4 (show s.length < 4294967296 by omega)]
  rw [show (false || decide (2048 < s.length)) = false by simp; omega]
  exact take_ok

theorem change_ok {c : Ch} {t : List Nat} (hr : right c = true) (hl : long c = false) : Lf.change ⟨packCh c ++ t, false⟩ = (c, ⟨t, false⟩) := by
  simp only [long, Bool.or_eq_false_iff, decide_eq_false_iff_not, Nat.not_lt] at hl
  obtain ⟨⟨⟨h1, h2⟩, h3⟩, h4⟩ := hl
  simp only [Lf.change, packCh, List.cons_append, List.append_assoc, byte_ok, text_ok h1, text_ok h2, text_ok h3, text_ok h4]
  cases c
  simp only [hr]
  simp

theorem changes_ok : ∀ (l : List Ch) (t : List Nat), l.all right = true → l.all (fun c => !long c) = true → Lf.changes l.length ⟨l.flatMap packCh ++ t, false⟩ = (l, ⟨t, false⟩)
  | [], t, _, _ => by simp [Lf.changes]
  | c :: l, t, hr, hl => by
    simp only [List.all_cons, Bool.and_eq_true, Bool.not_eq_true'] at hr hl
    simp only [List.length_cons, Lf.changes, Bool.false_eq_true, if_false, List.flatMap_cons, List.append_assoc]
    rw [change_ok hr.1 hl.1]
    simp only [changes_ok l t hr.2 hl.2]

theorem good_spec {l : List Ch} (h : good l = true) : l.length ≤ 255 ∧ l.all right = true ∧ l.all (fun c => !long c) = true := by
  simp only [good, Bool.and_eq_true, decide_eq_true_eq] at h
  exact ⟨h.1.1, h.1.2, h.2⟩

theorem parse_ok {l : List Ch} (h : good l = true) (t : List Nat) : Lf.changes (Lf.byte ⟨packL l ++ t, false⟩).1 (Lf.byte ⟨packL l ++ t, false⟩).2 = (l, ⟨t, false⟩) := by
  obtain ⟨_, h2, h3⟩ := good_spec h
  simp only [packL, List.cons_append, byte_ok]
  exact changes_ok l t h2 h3

/-- what is packed is unpacked as it was -/
theorem unpack_pack {l : List Ch} (h : good l = true) : unpack (packL l) = some l := by
  have := parse_ok h []
  simp only [List.append_nil] at this
  simp [unpack, this]

/-- a byte more: none -/
theorem unpack_more {l : List Ch} (h : good l = true) (b : Nat) : unpack (packL l ++ [b]) = none := by
  simp [unpack, parse_ok h [b]]

theorem take_back {x : Lf} {n : Nat} (h : (x.take n).2.bad = false) : x.bad = false ∧ x.bytes = (x.take n).1 ++ (x.take n).2.bytes ∧ (x.take n).1.length = n := by
  unfold Lf.take at h ⊢
  split at h
  · simp at h
  · rename_i hc
    simp only [Bool.or_eq_true, decide_eq_true_eq, not_or, Bool.not_eq_true, Nat.not_lt] at hc
    rw [if_neg (by simp [hc.1]; omega)]
    simp [hc.1, hc.2]

theorem byte_back {x : Lf} (h : x.byte.2.bad = false) : x.bad = false ∧ x.bytes = x.byte.1 :: x.byte.2.bytes := by
  unfold Lf.byte at h ⊢
  split at h
  · rename_i hb; rw [hb] at h; cases h
  · rename_i hb
    simp only [Bool.not_eq_true] at hb
    obtain ⟨h1, h2, h3⟩ := take_back hb
    rw [if_neg (by simp [hb])]
    refine ⟨h1, ?_⟩
    match hs : (x.take 1).1, h3 with
    | [a], _ => rw [hs] at h2; simpa using h2

theorem text_back {x : Lf} (hb : Bytes x.bytes) (h : x.text.2.bad = false) : x.bad = false ∧ x.bytes = packText x.text.1 ++ x.text.2.bytes ∧ x.text.1.length ≤ 2048 := by
  simp only [Lf.text] at h ⊢
  obtain ⟨h1, h2, h3⟩ := take_back h
  simp only [Bool.or_eq_false_iff, decide_eq_false_iff_not, Nat.not_lt] at h1
  obtain ⟨k1, k2, k3⟩ := take_back h1.1
  simp only at h2
  refine ⟨k1, ?_, by omega⟩
  have hle := le4_get4 k3 (fun n hn => hb n (by rw [k2]; simp [hn]))
  rw [packText, h3, hle, List.append_assoc, ← h2]
  exact k2

theorem bytes_right {s t : List Nat} (h : Bytes (s ++ t)) : Bytes t := fun n hn => h n (by simp [hn])

theorem change_back {x : Lf} (hb : Bytes x.bytes) (h : x.change.2.bad = false) : x.bad = false ∧ x.bytes = packCh x.change.1 ++ x.change.2.bytes ∧ right x.change.1 = true ∧ long x.change.1 = false := by
  simp only [Lf.change, Bool.or_eq_false_iff, Bool.not_eq_false'] at h ⊢
  obtain ⟨h, hr⟩ := h
  have b0 : Bytes x.bytes → x.byte.2.bad = false → Bytes x.byte.2.bytes := fun hb h => by
    have := (byte_back h).2
    rw [this] at hb
    exact fun n hn => hb n (by simp [hn])
  -- what is not bad behind was not bad ahead
  have nb : ∀ y : Lf, y.text.2.bad = false → y.bad = false := fun y hy => by
    simp only [Lf.text] at hy
    have := (take_back hy).1
    simp only [Bool.or_eq_false_iff] at this
    exact (take_back this.1).1
  have h3 := nb _ h
  have h2 := nb _ h3
  have h1 := nb _ h2
  have h0 := nb _ h1
  obtain ⟨e0, e1⟩ := byte_back h0
  have B0 := b0 hb h0
  obtain ⟨_, t1, l1⟩ := text_back B0 h1
  have B1 := B0
  rw [t1] at B1
  obtain ⟨_, t2, l2⟩ := text_back (bytes_right B1) h2
  have B2 := bytes_right B1
  rw [t2] at B2
  obtain ⟨_, t3, l3⟩ := text_back (bytes_right B2) h3
  have B3 := bytes_right B2
  rw [t3] at B3
  obtain ⟨_, t4, l4⟩ := text_back (bytes_right B3) h
  refine ⟨e0, ?_, hr, ?_⟩
  · rw [e1]
    simp only [packCh, List.cons_append, List.append_assoc]
    rw [← t4, ← t3, ← t2, ← t1]
  · simp only [long, Bool.or_eq_false_iff, decide_eq_false_iff_not, Nat.not_lt]
    exact ⟨⟨⟨l1, l2⟩, l3⟩, l4⟩

theorem changes_back : ∀ (n : Nat) (x : Lf), Bytes x.bytes → (Lf.changes n x).2.bad = false → (Lf.changes n x).1.length = n ∧ x.bad = false ∧ x.bytes = (Lf.changes n x).1.flatMap packCh ++ (Lf.changes n x).2.bytes ∧ (Lf.changes n x).1.all right = true ∧ (Lf.changes n x).1.all (fun c => !long c) = true
  | 0, x, _, h => by simp only [Lf.changes] at h ⊢; simp [h]
  | n + 1, x, hb, h => by
    by_cases hx : x.bad = true
    · simp only [Lf.changes, hx, if_true] at h
      cases h
    · simp only [Bool.not_eq_true] at hx
      simp only [Lf.changes, hx, Bool.false_eq_true, if_false] at h ⊢
      have hcb : x.change.2.bad = false := by
        cases n with
        | zero => simpa [Lf.changes] using h
        | succ n =>
          cases hc : x.change.2.bad with
          | false => rfl
          | true => simp [Lf.changes, hc] at h
      obtain ⟨_, h2, h3, h4⟩ := change_back hb hcb
      have hb' : Bytes x.change.2.bytes := by rw [h2] at hb; exact bytes_right hb
      obtain ⟨g1, _, g3, g4, g5⟩ := changes_back n _ hb' h
      refine ⟨by simp [g1], trivial, ?_, by simp [h3, g4], by simp [h4, g5]⟩
      rw [List.flatMap_cons, List.append_assoc, ← g3]
      exact h2

/-- what is unpacked is packed as the bytes that it was -/
theorem pack_unpack {s : List Nat} (hb : Bytes s) {l : List Ch} (h : unpack s = some l) : good l = true ∧ packL l = s := by
  simp only [unpack] at h
  split at h
  · cases h
  · rename_i hc
    cases h
    simp only [Bool.or_eq_true, Bool.not_eq_true', not_or, Bool.not_eq_true, Bool.not_eq_false, List.isEmpty_iff] at hc
    obtain ⟨h1, h2⟩ := hc
    have hbad : (Lf.byte ⟨s, false⟩).2.bad = false := by
      cases hq : (Lf.byte ⟨s, false⟩).2.bad with
      | false => rfl
      | true =>
        have h0 : (Lf.byte ⟨s, false⟩).1 = 0 := by
          unfold Lf.byte at hq ⊢
          split
          · rfl
          · rename_i h5
            rw [if_neg h5] at hq
            exact absurd hq h5
        rw [h0] at h1
        simp only [Lf.changes] at h1
        rw [hq] at h1
        cases h1
    obtain ⟨_, e1⟩ := byte_back hbad
    simp only at e1
    have hb1 : Bytes (Lf.byte ⟨s, false⟩).2.bytes := (fun (y : Nat) (z : List Nat) (hz : s = y :: z) (n : Nat) (hn : n ∈ z) => hb n (by rw [hz]; simp [hn])) _ _ e1
    obtain ⟨g1, _, g3, g4, g5⟩ := changes_back _ _ hb1 h1
    have hm : ∀ (y : Nat) (z : List Nat), s = y :: z → y < 256 := fun y z hz => hb y (by rw [hz]; simp)
    have hk : (Lf.byte ⟨s, false⟩).1 < 256 := hm _ _ e1
    rw [h2, List.append_nil] at g3
    refine ⟨?_, ?_⟩
    · simp only [good, Bool.and_eq_true, decide_eq_true_eq]
      exact ⟨⟨by omega, g4⟩, g5⟩
    · rw [packL, g1, ← g3]
      exact e1.symm

theorem bytes_le4 (n : Nat) : Bytes (le4 n) := by
  intro m hm
  simp only [le4, List.mem_cons, List.not_mem_nil, or_false] at hm
  omega

/-- a byte less: none -/
theorem unpack_less {l : List Ch} (h : good l = true) (hb : Bytes (packL l)) : unpack ((packL l).take ((packL l).length - 1)) = none := by
  cases hu : unpack ((packL l).take ((packL l).length - 1)) with
  | none => rfl
  | some m =>
    exfalso
    obtain ⟨g1, g2⟩ := pack_unpack (fun n hn => hb n (List.mem_of_mem_take hn)) hu
    have hne : packL l ≠ [] := by simp [packL]
    have hlast : packL l = packL m ++ [(packL l).getLast hne] := by
      rw [g2, ← List.dropLast_eq_take]
      exact (List.dropLast_concat_getLast hne).symm
    have h1 := unpack_more g1 ((packL l).getLast hne)
    rw [← hlast, unpack_pack h] at h1
    cases h1
end Go.E.Pk

namespace Go.E
open Pk
set_option maxRecDepth 10000

def enc (c : Ch) : List V := [.int .u8 c.k, .str c.id, .str c.text, .str c.ty, .str c.uid]

theorem enc_inj {c d : Ch} (h : enc c = enc d) : c = d := by
  cases c; cases d
  simp only [enc, List.cons.injEq, V.int.injEq, V.str.injEq, true_and, and_true, Int.ofNat_inj] at h
  obtain ⟨h1, h2, h3, h4, h5⟩ := h
  subst h1 h2 h3 h4 h5
  rfl

def qCh : Eq' := .parts [(0, none, .int), (1, none, .str), (2, none, .str), (3, some 2, .parts [(0, none, .str), (1, none, .str)])]

theorem eq_ch (n : Nat) (k k' : Int) (a b c d a' b' c' d' : List Nat) : eqV (n + 3) qCh (.agg [.int .u8 k, .str a, .str b, .str c, .str d]) (.agg [.int .u8 k', .str a', .str b', .str c', .str d']) =
    some ((k == k') && (a == a') && (b == b') && (c == c') && (d == d')) := by
  simp only [qCh, eqV, eqV.go, mkVal, List.drop, cut, Option.map_some, if_true]
  cases h1 : k == k' <;> simp
  cases h2 : a == a' <;> simp
  cases h3 : b == b' <;> simp
  cases h4 : c == c' <;> simp
  cases h5 : d == d' <;> simp

theorem isEmpty_beq (l : List Nat) : (l == []) = l.isEmpty := by cases l <;> rfl

theorem right_run (C : Ctx) (call : Call) (fuel : Nat) (c : Ch) : ∃ h', body C call fuel Fn.ef17 [.agg (enc c)] H.new = .ok (.bool (right c)) h' := by
  obtain ⟨k, a, b, c, d⟩ := c
  rw [body_eq _ _ _ _ _ _ (by simp [Fn.ef17])]
  have q := fun (n : Nat) => eq_ch n
  have hq := fun k k' a b c d a' b' c' d' => eq_ch 17 k k' a b c d a' b' c' d'
  simp only [qCh, Nat.reduceAdd] at hq
  by_cases h1 : k = 1
  · subst h1
    simp [Fn.ef17, code_seq, code_region, code_block, ops_cons, ops_nil, runOp, simpleOp, R.bind_ok, args1, args2, env_set, put_none, opd_tmp, opd_const, gs, V.cells?, andThen_normal, andThen_ret, andThen_exit, atEnd_normal, atEnd_ret, atEnd_exit, readAt, writeAt, H.get_push, H.get_put, H.size_push, H.size_put, new_size, nbeq, nble, nblt, o2r, mkVal, fillP, setL, cut, V.okCell, binop, unop, code_cond, code_skip, code_ret, code_exit, leave_ret, leave_normal, resultsOf, resultOf, asNat, optNat, code_draw, draw_cons, draw_nil, drawn_ok, drawEnd_ok, back_get, back_size, back_mark, norm_get, norm_size, norm_mark, norm_wr, ok_all, pairOk, wrOk, apartOk, footOf, foot, H.wr_put, H.wr_push, H.mark_put, H.mark_push, sliceCells, lenV, IntKind.wrap, IntKind.signed, IntKind.bits, back_norm, back_norm_push, back_norm_put, enc, hq, right, isEmpty_beq]
  · have e1 : (((k : Nat) : Int) == 1) = false := by simp; omega
    by_cases h4 : k = 4
    · subst h4
      simp [Fn.ef17, code_seq, code_region, code_block, ops_cons, ops_nil, runOp, simpleOp, R.bind_ok, args1, args2, env_set, put_none, opd_tmp, opd_const, gs, V.cells?, andThen_normal, andThen_ret, andThen_exit, atEnd_normal, atEnd_ret, atEnd_exit, readAt, writeAt, H.get_push, H.get_put, H.size_push, H.size_put, new_size, nbeq, nble, nblt, o2r, mkVal, fillP, setL, cut, V.okCell, binop, unop, code_cond, code_skip, code_ret, code_exit, leave_ret, leave_normal, resultsOf, resultOf, asNat, optNat, code_draw, draw_cons, draw_nil, drawn_ok, drawEnd_ok, back_get, back_size, back_mark, norm_get, norm_size, norm_mark, norm_wr, ok_all, pairOk, wrOk, apartOk, footOf, foot, H.wr_put, H.wr_push, H.mark_put, H.mark_push, sliceCells, lenV, IntKind.wrap, IntKind.signed, IntKind.bits, back_norm, back_norm_push, back_norm_put, enc, hq, right, isEmpty_beq]
    · have e4 : (((k : Nat) : Int) == 4) = false := by simp; omega
      by_cases h2 : k = 2
      · subst h2
        simp [Fn.ef17, code_seq, code_region, code_block, ops_cons, ops_nil, runOp, simpleOp, R.bind_ok, args1, args2, env_set, put_none, opd_tmp, opd_const, gs, V.cells?, andThen_normal, andThen_ret, andThen_exit, atEnd_normal, atEnd_ret, atEnd_exit, readAt, writeAt, H.get_push, H.get_put, H.size_push, H.size_put, new_size, nbeq, nble, nblt, o2r, mkVal, fillP, setL, cut, V.okCell, binop, unop, code_cond, code_skip, code_ret, code_exit, leave_ret, leave_normal, resultsOf, resultOf, asNat, optNat, code_draw, draw_cons, draw_nil, drawn_ok, drawEnd_ok, back_get, back_size, back_mark, norm_get, norm_size, norm_mark, norm_wr, ok_all, pairOk, wrOk, apartOk, footOf, foot, H.wr_put, H.wr_push, H.mark_put, H.mark_push, sliceCells, lenV, IntKind.wrap, IntKind.signed, IntKind.bits, back_norm, back_norm_push, back_norm_put, enc, hq, right, isEmpty_beq]

      · have e2 : (((k : Nat) : Int) == 2) = false := by simp; omega
        by_cases h3 : k = 3
        · subst h3
          simp [Fn.ef17, code_seq, code_region, code_block, ops_cons, ops_nil, runOp, simpleOp, R.bind_ok, args1, args2, env_set, put_none, opd_tmp, opd_const, gs, V.cells?, andThen_normal, andThen_ret, andThen_exit, atEnd_normal, atEnd_ret, atEnd_exit, readAt, writeAt, H.get_push, H.get_put, H.size_push, H.size_put, new_size, nbeq, nble, nblt, o2r, mkVal, fillP, setL, cut, V.okCell, binop, unop, code_cond, code_skip, code_ret, code_exit, leave_ret, leave_normal, resultsOf, resultOf, asNat, optNat, code_draw, draw_cons, draw_nil, drawn_ok, drawEnd_ok, back_get, back_size, back_mark, norm_get, norm_size, norm_mark, norm_wr, ok_all, pairOk, wrOk, apartOk, footOf, foot, H.wr_put, H.wr_push, H.mark_put, H.mark_push, sliceCells, lenV, IntKind.wrap, IntKind.signed, IntKind.bits, back_norm, back_norm_push, back_norm_put, enc, hq, right, isEmpty_beq]
        · have e3 : (((k : Nat) : Int) == 3) = false := by simp; omega
          by_cases h5 : k = 5
          · subst h5
            simp [Fn.ef17, code_seq, code_region, code_block, ops_cons, ops_nil, runOp, simpleOp, R.bind_ok, args1, args2, env_set, put_none, opd_tmp, opd_const, gs, V.cells?, andThen_normal, andThen_ret, andThen_exit, atEnd_normal, atEnd_ret, atEnd_exit, readAt, writeAt, H.get_push, H.get_put, H.size_push, H.size_put, new_size, nbeq, nble, nblt, o2r, mkVal, fillP, setL, cut, V.okCell, binop, unop, code_cond, code_skip, code_ret, code_exit, leave_ret, leave_normal, resultsOf, resultOf, asNat, optNat, code_draw, draw_cons, draw_nil, drawn_ok, drawEnd_ok, back_get, back_size, back_mark, norm_get, norm_size, norm_mark, norm_wr, ok_all, pairOk, wrOk, apartOk, footOf, foot, H.wr_put, H.wr_push, H.mark_put, H.mark_push, sliceCells, lenV, IntKind.wrap, IntKind.signed, IntKind.bits, back_norm, back_norm_push, back_norm_put, enc, hq, right, isEmpty_beq]
          · have e5 : (((k : Nat) : Int) == 5) = false := by simp; omega
            simp [Fn.ef17, code_seq, code_region, code_block, ops_cons, ops_nil, runOp, simpleOp, R.bind_ok, args1, args2, env_set, put_none, opd_tmp, opd_const, gs, V.cells?, andThen_normal, andThen_ret, andThen_exit, atEnd_normal, atEnd_ret, atEnd_exit, readAt, writeAt, H.get_push, H.get_put, H.size_push, H.size_put, new_size, nbeq, nble, nblt, o2r, mkVal, fillP, setL, cut, V.okCell, binop, unop, code_cond, code_skip, code_ret, code_exit, leave_ret, leave_normal, resultsOf, resultOf, asNat, optNat, code_draw, draw_cons, draw_nil, drawn_ok, drawEnd_ok, back_get, back_size, back_mark, norm_get, norm_size, norm_mark, norm_wr, ok_all, pairOk, wrOk, apartOk, footOf, foot, H.wr_put, H.wr_push, H.mark_put, H.mark_push, sliceCells, lenV, IntKind.wrap, IntKind.signed, IntKind.bits, back_norm, back_norm_push, back_norm_put, enc, e1, e2, e3, e4, e5, right, h1, h2, h3, h4, h5]
end Go.E

namespace Go.E
open Pk
set_option maxRecDepth 10000


def le8 (m : Nat) : List Nat := [m % 256, m / 256 % 256, m / 65536 % 256, m / 16777216 % 256, m / 4294967296 % 256, m / 1099511627776 % 256, m / 281474976710656 % 256, m / 72057594037927936 % 256]

theorem byte_mod (x : Nat) : asByte (.int .u8 ((x : Int) % 256)) = some (x % 256) := by
  unfold asByte
  simp only
  rw [if_pos (by omega)]
  exact congrArg some (by omega)

theorem fdivN (m k : Nat) : (m : Int).fdiv (k : Int) = ((m / k : Nat) : Int) := by
  rw [Int.fdiv_eq_ediv_of_nonneg _ (Int.natCast_nonneg _)]
  rfl

theorem put64_run (C : Ctx) (call : Call) (fuel m : Nat) : ∃ h', body C call (fuel + 9) Fn.ef84 [.int .u64 m] H.new = .ok (.str (le8 m)) h' := by
  rw [body_eq _ _ _ _ _ _ (by simp [Fn.ef84])]
  have f1 : (m : Int).fdiv 256 = ((m / 256 : Nat) : Int) := fdivN m 256
  have f2 : (m : Int).fdiv 65536 = ((m / 65536 : Nat) : Int) := fdivN m 65536
  have f3 : (m : Int).fdiv 16777216 = ((m / 16777216 : Nat) : Int) := fdivN m 16777216
  have f4 : (m : Int).fdiv 4294967296 = ((m / 4294967296 : Nat) : Int) := fdivN m 4294967296
  have f5 : (m : Int).fdiv 1099511627776 = ((m / 1099511627776 : Nat) : Int) := fdivN m 1099511627776
  have f6 : (m : Int).fdiv 281474976710656 = ((m / 281474976710656 : Nat) : Int) := fdivN m 281474976710656
  have f7 : (m : Int).fdiv 72057594037927936 = ((m / 72057594037927936 : Nat) : Int) := fdivN m 72057594037927936
  simp [Fn.ef84, code_seq, code_region, code_block, ops_cons, ops_nil, runOp, simpleOp, R.bind_ok, args1, args2, env_set, put_none, opd_tmp, opd_const, gs, V.cells?, andThen_normal, andThen_ret, andThen_exit, atEnd_normal, atEnd_ret, atEnd_exit, readAt, writeAt, H.get_push, H.get_put, H.size_push, H.size_put, new_size, nbeq, nble, nblt, o2r, mkVal, fillP, setL, cut, V.okCell, binop, unop, code_cond, code_skip, code_ret, code_exit, leave_ret, leave_normal, resultsOf, resultOf, asNat, optNat, code_draw, draw_cons, draw_nil, drawn_ok, drawEnd_ok, back_get, back_size, back_mark, norm_get, norm_size, norm_mark, norm_wr, ok_all, pairOk, wrOk, apartOk, footOf, foot, H.wr_put, H.wr_push, H.mark_put, H.mark_push, sliceCells, lenV, IntKind.wrap, IntKind.signed, IntKind.bits, back_norm, back_norm_push, back_norm_put, code_loop, iter_succ, IntKind.wrap, IntKind.signed, IntKind.bits, f1, f2, f3, f4, f5, f6, f7, -Int.natCast_ediv, byte_mod, le8]



/-- a number out of eight bytes -/
def get8 : List Nat → Nat
  | [a, b, c, d, e, f, g, i] => a + 256 * b + 65536 * c + 16777216 * d + 4294967296 * e + 1099511627776 * f + 281474976710656 * g + 72057594037927936 * i
  | _ => 0

theorem orN (k x b : Nat) (z : Int) (hk : k ≤ 56) (hx : x < 2 ^ k) (hb : b < 256) (hz : z = ((b * 2 ^ k : Nat) : Int)) : ((BitVec.ofInt 64 (x : Int) ||| BitVec.ofInt 64 z).toNat : Int) % 18446744073709551616 = ((x + b * 2 ^ k : Nat) : Int) := by
  have hp : 2 ^ k * 256 ≤ 2 ^ 64 := by
    have : 2 ^ k ≤ 2 ^ 56 := Nat.pow_le_pow_right (by omega) hk
    omega
  have hy : b * 2 ^ k + 2 ^ k ≤ 2 ^ k * 256 := by
    have : (b + 1) * 2 ^ k ≤ 256 * 2 ^ k := Nat.mul_le_mul_right _ (by omega)
    rw [Nat.add_mul] at this
    omega
  have e1 : (BitVec.ofInt 64 (x : Int)).toNat = x := by
    rw [BitVec.toNat_ofInt]
    omega
  have e2 : (BitVec.ofInt 64 z).toNat = b * 2 ^ k := by
    rw [hz, BitVec.toNat_ofInt]
    omega
  rw [BitVec.toNat_or, e1, e2, Nat.or_comm, ← Nat.shiftLeft_eq, ← Nat.shiftLeft_add_eq_or_of_lt hx, Nat.shiftLeft_eq]
  omega

theorem get64_run (C : Ctx) (call : Call) (fuel : Nat) (a b c d e f g i : Nat) (hb : Bytes [a, b, c, d, e, f, g, i]) : ∃ h', body C call (fuel + 9) Fn.ef193 [.str [a, b, c, d, e, f, g, i]] H.new = .ok (.tup [.int .u64 (get8 [a, b, c, d, e, f, g, i]), .int .i64 0]) h' := by
  have ha := hb a (by simp)
  have hb' := hb b (by simp)
  have hc := hb c (by simp)
  have hd := hb d (by simp)
  have he := hb e (by simp)
  have hf := hb f (by simp)
  have hg := hb g (by simp)
  have hi := hb i (by simp)
  rw [body_eq _ _ _ _ _ _ (by simp [Fn.ef193])]
  simp [Fn.ef193, code_seq, code_region, code_block, ops_cons, ops_nil, runOp, simpleOp, R.bind_ok, args1, args2, env_set, put_none, opd_tmp, opd_const, gs, V.cells?, andThen_normal, andThen_ret, andThen_exit, atEnd_normal, atEnd_ret, atEnd_exit, readAt, writeAt, H.get_push, H.get_put, H.size_push, H.size_put, new_size, nbeq, nble, nblt, o2r, mkVal, fillP, setL, cut, V.okCell, binop, unop, code_cond, code_skip, code_ret, code_exit, leave_ret, leave_normal, resultsOf, resultOf, asNat, optNat, code_draw, draw_cons, draw_nil, drawn_ok, drawEnd_ok, back_get, back_size, back_mark, norm_get, norm_size, norm_mark, norm_wr, ok_all, pairOk, wrOk, apartOk, footOf, foot, H.wr_put, H.wr_push, H.mark_put, H.mark_push, sliceCells, lenV, IntKind.wrap, IntKind.signed, IntKind.bits, back_norm, back_norm_push, back_norm_put, code_loop, iter_succ, IntKind.wrap, IntKind.signed, IntKind.bits]
  have o0 : ((0#64 ||| BitVec.ofInt 64 ((a : Int) % 18446744073709551616)).toNat : Int) % 18446744073709551616 = ((a : Nat) : Int) := by
    rw [BitVec.zero_or, BitVec.toNat_ofInt]
    omega
  have o1 := orN 8 a b ((b : Int) % 18446744073709551616 * 256 % 18446744073709551616) (by omega) (by omega) hb' (by omega)
  have o2 := orN 16 (a + b * 2 ^ 8) c ((c : Int) % 18446744073709551616 * 65536 % 18446744073709551616) (by omega) (by omega) hc (by omega)
  have o3 := orN 24 (a + b * 2 ^ 8 + c * 2 ^ 16) d ((d : Int) % 18446744073709551616 * 16777216 % 18446744073709551616) (by omega) (by omega) hd (by omega)
  have o4 := orN 32 (a + b * 2 ^ 8 + c * 2 ^ 16 + d * 2 ^ 24) e ((e : Int) % 18446744073709551616 * 4294967296 % 18446744073709551616) (by omega) (by omega) he (by omega)
  have o5 := orN 40 (a + b * 2 ^ 8 + c * 2 ^ 16 + d * 2 ^ 24 + e * 2 ^ 32) f ((f : Int) % 18446744073709551616 * 1099511627776 % 18446744073709551616) (by omega) (by omega) hf (by omega)
  have o6 := orN 48 (a + b * 2 ^ 8 + c * 2 ^ 16 + d * 2 ^ 24 + e * 2 ^ 32 + f * 2 ^ 40) g ((g : Int) % 18446744073709551616 * 281474976710656 % 18446744073709551616) (by omega) (by omega) hg (by omega)
  have o7 := orN 56 (a + b * 2 ^ 8 + c * 2 ^ 16 + d * 2 ^ 24 + e * 2 ^ 32 + f * 2 ^ 40 + g * 2 ^ 48) i ((i : Int) % 18446744073709551616 * 72057594037927936 % 18446744073709551616) (by omega) (by omega) hi (by omega)
  erw [o0, o1, o2, o3, o4, o5, o6, o7]
  simp only [get8]
  omega
end Go.E

namespace Go.E
open Pk
set_option maxRecDepth 10000

/-- what is known of the functions -/
def plainFns : List (Nat × EFunc) := [(12, Fn.ef12), (13, Fn.ef13), (14, Fn.ef14), (15, Fn.ef15), (18, Fn.ef18), (19, Fn.ef19), (21, Fn.ef21), (22, Fn.ef22), (24, Fn.ef24), (39, Fn.ef39), (40, Fn.ef40), (42, Fn.ef42), (43, Fn.ef43), (85, Fn.ef85)]
def apartFns : List (Nat × EFunc) := [(5, Fn.ef5), (6, Fn.ef6), (7, Fn.ef7), (11, Fn.ef11), (16, Fn.ef16), (17, Fn.ef17), (20, Fn.ef20), (41, Fn.ef41), (84, Fn.ef84), (86, Fn.ef86), (193, Fn.ef193)]

structure Fns (C : Ctx) : Prop where
  plain : ∀ p ∈ plainFns, C.spec p.1 = none ∧ C.func p.1 = some p.2 ∧ C.apart p.1 = false
  apart : ∀ p ∈ apartFns, C.spec p.1 = none ∧ C.func p.1 = some p.2 ∧ C.apart p.1 = true
  esc : C.spec 83 = some .noEscape
  lies : C.lies 59 2 0 59 = true

section
variable {C : Ctx} (F : Fns C)

theorem Fns.call {f : Nat} {fn : EFunc} (F : Fns C) (hm : (f, fn) ∈ plainFns) (n : Nat) (args : List V) (h : H) : callN C (n + 1) (.func (.func f) [] []) args h = body C (callN C n) n fn args h := by
  obtain ⟨h1, h2, h3⟩ := F.plain _ hm
  exact call_plain h1 h2 h3

theorem Fns.known {f : Nat} {fn : EFunc} (F : Fns C) (hm : (f, fn) ∈ apartFns) (n : Nat) {args : List V} {v : V} (h : H) (hk : C.memo f args = some v) (hc : closeds args = true) : callN C (n + 1) (.func (.func f) [] []) args h = .ok v h := by
  obtain ⟨h1, h2, h3⟩ := F.apart _ hm
  exact call_apart h1 h2 h3 hk hc

theorem put32_run (F : Fns C) (hk : ∀ m : Nat, C.memo 84 [.int .u64 m] = some (.str (le8 m))) (n fuel m : Nat) (hm : m < 4294967296) : ∃ h', body C (callN C (n + 1)) fuel Fn.ef41 [.int .u32 m] H.new = .ok (.str (le4 m)) h' := by
  have hc := fun h => F.known (f := 84) (fn := Fn.ef84) (by simp [apartFns]) n h (hk m) rfl
  have hw : (m : Int) % 18446744073709551616 = m := by omega
  rw [body_eq _ _ _ _ _ _ (by simp [Fn.ef41])]
  simp [Fn.ef41, code_seq, code_region, code_block, ops_cons, ops_nil, runOp, simpleOp, R.bind_ok, args1, args2, env_set, put_none, opd_tmp, opd_const, gs, V.cells?, andThen_normal, andThen_ret, andThen_exit, atEnd_normal, atEnd_ret, atEnd_exit, readAt, writeAt, H.get_push, H.get_put, H.size_push, H.size_put, new_size, nbeq, nble, nblt, o2r, mkVal, fillP, setL, cut, V.okCell, binop, unop, code_cond, code_skip, code_ret, code_exit, leave_ret, leave_normal, resultsOf, resultOf, asNat, optNat, code_draw, draw_cons, draw_nil, drawn_ok, drawEnd_ok, back_get, back_size, back_mark, norm_get, norm_size, norm_mark, norm_wr, ok_all, pairOk, wrOk, apartOk, footOf, foot, H.wr_put, H.wr_push, H.mark_put, H.mark_push, sliceCells, lenV, IntKind.wrap, IntKind.signed, IntKind.bits, back_norm, back_norm_push, back_norm_put, hc, hw, le8, le4]

theorem get32_run (F : Fns C) (hk : ∀ a b c d : Nat, Bytes [a, b, c, d] → C.memo 193 [.str [a, b, c, d, 0, 0, 0, 0]] = some (.tup [.int .u64 (get4 [a, b, c, d]), .int .i64 0])) (n fuel a b c d : Nat) (hb : Bytes [a, b, c, d]) :
    ∃ h', body C (callN C (n + 1)) fuel Fn.ef86 [.str [a, b, c, d]] H.new = .ok (.tup [.int .u32 (get4 [a, b, c, d]), .int .i64 0]) h' := by
  have hc := fun h => F.known (f := 193) (fn := Fn.ef193) (by simp [apartFns]) n h (hk a b c d hb) rfl
  have ha := hb a (by simp)
  have hb' := hb b (by simp)
  have hc' := hb c (by simp)
  have hd := hb d (by simp)
  have hw : ((get4 [a, b, c, d] : Nat) : Int) % 4294967296 = (get4 [a, b, c, d] : Nat) := by simp only [get4]; omega
  generalize get4 [a, b, c, d] = g at *
  rw [body_eq _ _ _ _ _ _ (by simp [Fn.ef86])]
  simp [Fn.ef86, code_seq, code_region, code_block, ops_cons, ops_nil, runOp, simpleOp, R.bind_ok, args1, args2, env_set, put_none, opd_tmp, opd_const, gs, V.cells?, andThen_normal, andThen_ret, andThen_exit, atEnd_normal, atEnd_ret, atEnd_exit, readAt, writeAt, H.get_push, H.get_put, H.size_push, H.size_put, new_size, nbeq, nble, nblt, o2r, mkVal, fillP, setL, cut, V.okCell, binop, unop, code_cond, code_skip, code_ret, code_exit, leave_ret, leave_normal, resultsOf, resultOf, asNat, optNat, code_draw, draw_cons, draw_nil, drawn_ok, drawEnd_ok, back_get, back_size, back_mark, norm_get, norm_size, norm_mark, norm_wr, ok_all, pairOk, wrOk, apartOk, footOf, foot, H.wr_put, H.wr_push, H.mark_put, H.mark_push, sliceCells, lenV, IntKind.wrap, IntKind.signed, IntKind.bits, back_norm, back_norm_push, back_norm_put, hc, hw]

theorem get32_none (fuel n : Nat) : ∃ h', body C (callN C (n + 1)) fuel Fn.ef86 [.str []] H.new = .ok (.tup [.int .u32 0, .int .i64 14]) h' := by
  rw [body_eq _ _ _ _ _ _ (by simp [Fn.ef86])]
  simp [Fn.ef86, code_seq, code_region, code_block, ops_cons, ops_nil, runOp, simpleOp, R.bind_ok, args1, args2, env_set, put_none, opd_tmp, opd_const, gs, V.cells?, andThen_normal, andThen_ret, andThen_exit, atEnd_normal, atEnd_ret, atEnd_exit, readAt, writeAt, H.get_push, H.get_put, H.size_push, H.size_put, new_size, nbeq, nble, nblt, o2r, mkVal, fillP, setL, cut, V.okCell, binop, unop, code_cond, code_skip, code_ret, code_exit, leave_ret, leave_normal, resultsOf, resultOf, asNat, optNat, code_draw, draw_cons, draw_nil, drawn_ok, drawEnd_ok, back_get, back_size, back_mark, norm_get, norm_size, norm_mark, norm_wr, ok_all, pairOk, wrOk, apartOk, footOf, foot, H.wr_put, H.wr_push, H.mark_put, H.mark_push, sliceCells, lenV, IntKind.wrap, IntKind.signed, IntKind.bits, back_norm, back_norm_push, back_norm_put]

theorem text_run (F : Fns C) (hk : ∀ m : Nat, m < 4294967296 → C.memo 41 [.int .u32 m] = some (.str (le4 m))) (n fuel : Nat) (s : List Nat) (hs : s.length ≤ 2048) : ∃ h', body C (callN C (n + 1)) fuel Fn.ef20 [.str s] H.new = .ok (.str (packText s)) h' := by
  have hc := fun h => F.known (f := 41) (fn := Fn.ef41) (by simp [apartFns]) n h (hk s.length (by omega)) rfl
  have hw : (s.length : Int) % 4294967296 = s.length := by omega
  have hl : 4 + s.length ≤ 1099511627776 := by omega
  have h4 : (le4 s.length).length = 4 := rfl
  rw [body_eq _ _ _ _ _ _ (by simp [Fn.ef20])]
  simp [Fn.ef20, code_seq, code_region, code_block, ops_cons, ops_nil, runOp, simpleOp, R.bind_ok, args1, args2, env_set, put_none, opd_tmp, opd_const, gs, V.cells?, andThen_normal, andThen_ret, andThen_exit, atEnd_normal, atEnd_ret, atEnd_exit, readAt, writeAt, H.get_push, H.get_put, H.size_push, H.size_put, new_size, nbeq, nble, nblt, o2r, mkVal, fillP, setL, cut, V.okCell, binop, unop, code_cond, code_skip, code_ret, code_exit, leave_ret, leave_normal, resultsOf, resultOf, asNat, optNat, code_draw, draw_cons, draw_nil, drawn_ok, drawEnd_ok, back_get, back_size, back_mark, norm_get, norm_size, norm_mark, norm_wr, ok_all, pairOk, wrOk, apartOk, footOf, foot, H.wr_put, H.wr_push, H.mark_put, H.mark_push, sliceCells, lenV, IntKind.wrap, IntKind.signed, IntKind.bits, back_norm, back_norm_push, back_norm_put, hc, hw, hl, h4, packText]

theorem right_fact (F : Fns C) (hk : ∀ c : Ch, C.memo 17 [.agg (enc c)] = some (.bool (right c))) (n : Nat) (c : Ch) (h : H) : callN C (n + 1) (.func (.func 17) [] []) [.agg (enc c)] h = .ok (.bool (right c)) h :=
  F.known (fn := Fn.ef17) (by simp [apartFns]) n h (hk c) (by simp [closeds, closed, enc])

theorem wrong_run (F : Fns C) (hk : ∀ c : Ch, C.memo 17 [.agg (enc c)] = some (.bool (right c))) (n fuel : Nat) (c : Ch) : ∃ h', body C (callN C (n + 1)) fuel Fn.ef16 [.agg (enc c)] H.new = .ok (.bool !right c) h' := by
  have hc := fun h => right_fact F hk n c h
  rw [body_eq _ _ _ _ _ _ (by simp [Fn.ef16])]
  simp only [enc] at hc ⊢
  simp [Fn.ef16, code_seq, code_region, code_block, ops_cons, ops_nil, runOp, simpleOp, R.bind_ok, args1, args2, env_set, put_none, opd_tmp, opd_const, gs, V.cells?, andThen_normal, andThen_ret, andThen_exit, atEnd_normal, atEnd_ret, atEnd_exit, readAt, writeAt, H.get_push, H.get_put, H.size_push, H.size_put, new_size, nbeq, nble, nblt, o2r, mkVal, fillP, setL, cut, V.okCell, binop, unop, code_cond, code_skip, code_ret, code_exit, leave_ret, leave_normal, resultsOf, resultOf, asNat, optNat, code_draw, draw_cons, draw_nil, drawn_ok, drawEnd_ok, back_get, back_size, back_mark, norm_get, norm_size, norm_mark, norm_wr, ok_all, pairOk, wrOk, apartOk, footOf, foot, H.wr_put, H.wr_push, H.mark_put, H.mark_push, sliceCells, lenV, IntKind.wrap, IntKind.signed, IntKind.bits, back_norm, back_norm_push, back_norm_put, hc]
end
end Go.E

namespace Go.E
open Pk
set_option maxRecDepth 10000

section
variable {C : Ctx}

theorem texts_run (call : Call) (fuel : Nat) (b o v : Nat) (h : H) : body C call fuel Fn.ef13 [.ptr b o v] h = .ok (.sl h.size 0 4 4 1 4 true) (h.push (.cells [.ptr b (o + 1) v, .ptr b (o + 2) v, .ptr b (o + 3) v, .ptr b (o + 4) v] 50 0 0)) := by
  rw [body_eq _ _ _ _ _ _ (by simp [Fn.ef13])]
  simp [Fn.ef13, code_seq, code_region, code_block, ops_cons, ops_nil, runOp, simpleOp, R.bind_ok, args1, args2, env_set, put_none, opd_tmp, opd_const, gs, V.cells?, andThen_normal, andThen_ret, andThen_exit, atEnd_normal, atEnd_ret, atEnd_exit, readAt, writeAt, H.get_push, H.get_put, H.size_push, H.size_put, new_size, nbeq, nble, nblt, o2r, mkVal, fillP, setL, cut, V.okCell, binop, unop, code_cond, code_skip, code_ret, code_exit, leave_ret, leave_normal, resultsOf, resultOf, asNat, optNat, code_draw, draw_cons, draw_nil, drawn_ok, drawEnd_ok, back_get, back_size, back_mark, norm_get, norm_size, norm_mark, norm_wr, ok_all, pairOk, wrOk, apartOk, footOf, foot, H.wr_put, H.wr_push, H.mark_put, H.mark_push, sliceCells, lenV, IntKind.wrap, IntKind.signed, IntKind.bits, back_norm, back_norm_push, back_norm_put, repl]

theorem long1_run (call : Call) (fuel : Nat) (b o v : Nat) (h : H) (cs : List V) (e g f : Nat) (s : List Nat) (r : List V) (hg : h.get b = some (.cells cs e g f)) (hv : v = cs.length) (hd : cs.drop o = .str s :: r) :
    body C call fuel Fn.ef14 [.ptr b o v] h = .ok (.bool (decide (2048 < (s.length : Int)))) h := by
  rw [body_eq _ _ _ _ _ _ (by simp [Fn.ef14])]
  simp [Fn.ef14, code_seq, code_region, code_block, ops_cons, ops_nil, runOp, simpleOp, R.bind_ok, args1, args2, env_set, put_none, opd_tmp, opd_const, gs, V.cells?, andThen_normal, andThen_ret, andThen_exit, atEnd_normal, atEnd_ret, atEnd_exit, readAt, writeAt, H.get_push, H.get_put, H.size_push, H.size_put, new_size, nbeq, nble, nblt, o2r, mkVal, fillP, setL, cut, V.okCell, binop, unop, code_cond, code_skip, code_ret, code_exit, leave_ret, leave_normal, resultsOf, resultOf, asNat, optNat, code_draw, draw_cons, draw_nil, drawn_ok, drawEnd_ok, back_get, back_size, back_mark, norm_get, norm_size, norm_mark, norm_wr, ok_all, pairOk, wrOk, apartOk, footOf, foot, H.wr_put, H.wr_push, H.mark_put, H.mark_push, sliceCells, lenV, IntKind.wrap, IntKind.signed, IntKind.bits, back_norm, back_norm_push, back_norm_put, hg, hv, hd]

def longHeap (c : Ch) : H := (H.new.push (.cells (enc c) 35 0 0)).push (.cells [.ptr 0 1 5, .ptr 0 2 5, .ptr 0 3 5, .ptr 0 4 5] 50 0 0)
theorem longHeap0 (c : Ch) : (longHeap c).get 0 = some (.cells (enc c) 35 0 0) := by simp [longHeap, H.get_push, new_size]
theorem longHeap1 (c : Ch) : (longHeap c).get 1 = some (.cells [.ptr 0 1 5, .ptr 0 2 5, .ptr 0 3 5, .ptr 0 4 5] 50 0 0) := by simp [longHeap, H.get_push, new_size]

theorem index_long (F : Fns C) (n fuel : Nat) (c : Ch) : ∃ i : Int, body C (callN C (n + 1)) (fuel + 5) Fn.ef39 [.sl 1 0 4 4 1 4 true, .func (.func 14) [] []] (longHeap c) = .ok (.int .i64 i) (longHeap c) ∧ decide (i ≥ 0) = long c := by
  have c14 := fun args h => F.call (f := 14) (fn := Fn.ef14) (by simp [plainFns]) n args h
  have g0 := longHeap0 c
  have g1 := longHeap1 c
  have s1 := fun s r hd => long1_run (C := C) (callN C n) n 0 1 5 (longHeap c) (enc c) 35 0 0 s r g0 rfl hd
  have s2 := fun s r hd => long1_run (C := C) (callN C n) n 0 2 5 (longHeap c) (enc c) 35 0 0 s r g0 rfl hd
  have s3 := fun s r hd => long1_run (C := C) (callN C n) n 0 3 5 (longHeap c) (enc c) 35 0 0 s r g0 rfl hd
  have s4 := fun s r hd => long1_run (C := C) (callN C n) n 0 4 5 (longHeap c) (enc c) 35 0 0 s r g0 rfl hd
  have s1 := s1 _ _ rfl
  have s2 := s2 _ _ rfl
  have s3 := s3 _ _ rfl
  have s4 := s4 _ _ rfl
  generalize longHeap c = hh at *
  rw [body_eq _ _ _ _ _ _ (by simp [Fn.ef39])]
  by_cases h1 : (2048 : Int) < c.id.length
  · rw [decide_eq_true h1] at s1
    refine ⟨0, ?_, by simp [long]; omega⟩
    simp [Fn.ef39, code_seq, code_region, code_block, ops_cons, ops_nil, runOp, simpleOp, R.bind_ok, args1, args2, env_set, put_none, opd_tmp, opd_const, gs, V.cells?, andThen_normal, andThen_ret, andThen_exit, atEnd_normal, atEnd_ret, atEnd_exit, readAt, writeAt, H.get_push, H.get_put, H.size_push, H.size_put, new_size, nbeq, nble, nblt, o2r, mkVal, fillP, setL, cut, V.okCell, binop, unop, code_cond, code_skip, code_ret, code_exit, leave_ret, leave_normal, resultsOf, resultOf, asNat, optNat, code_draw, draw_cons, draw_nil, drawn_ok, drawEnd_ok, back_get, back_size, back_mark, norm_get, norm_size, norm_mark, norm_wr, ok_all, pairOk, wrOk, apartOk, footOf, foot, H.wr_put, H.wr_push, H.mark_put, H.mark_push, sliceCells, lenV, IntKind.wrap, IntKind.signed, IntKind.bits, back_norm, back_norm_push, back_norm_put, code_loop, iter_succ, c14, g1, s1]
  · rw [decide_eq_false h1] at s1
    by_cases h2 : (2048 : Int) < c.text.length
    · rw [decide_eq_true h2] at s2
      refine ⟨1, ?_, by simp [long]; omega⟩
      simp [Fn.ef39, code_seq, code_region, code_block, ops_cons, ops_nil, runOp, simpleOp, R.bind_ok, args1, args2, env_set, put_none, opd_tmp, opd_const, gs, V.cells?, andThen_normal, andThen_ret, andThen_exit, atEnd_normal, atEnd_ret, atEnd_exit, readAt, writeAt, H.get_push, H.get_put, H.size_push, H.size_put, new_size, nbeq, nble, nblt, o2r, mkVal, fillP, setL, cut, V.okCell, binop, unop, code_cond, code_skip, code_ret, code_exit, leave_ret, leave_normal, resultsOf, resultOf, asNat, optNat, code_draw, draw_cons, draw_nil, drawn_ok, drawEnd_ok, back_get, back_size, back_mark, norm_get, norm_size, norm_mark, norm_wr, ok_all, pairOk, wrOk, apartOk, footOf, foot, H.wr_put, H.wr_push, H.mark_put, H.mark_push, sliceCells, lenV, IntKind.wrap, IntKind.signed, IntKind.bits, back_norm, back_norm_push, back_norm_put, code_loop, iter_succ, c14, g1, s1, s2]
    · rw [decide_eq_false h2] at s2
      by_cases h3 : (2048 : Int) < c.ty.length
      · rw [decide_eq_true h3] at s3
        refine ⟨2, ?_, by simp [long]; omega⟩
        simp [Fn.ef39, code_seq, code_region, code_block, ops_cons, ops_nil, runOp, simpleOp, R.bind_ok, args1, args2, env_set, put_none, opd_tmp, opd_const, gs, V.cells?, andThen_normal, andThen_ret, andThen_exit, atEnd_normal, atEnd_ret, atEnd_exit, readAt, writeAt, H.get_push, H.get_put, H.size_push, H.size_put, new_size, nbeq, nble, nblt, o2r, mkVal, fillP, setL, cut, V.okCell, binop, unop, code_cond, code_skip, code_ret, code_exit, leave_ret, leave_normal, resultsOf, resultOf, asNat, optNat, code_draw, draw_cons, draw_nil, drawn_ok, drawEnd_ok, back_get, back_size, back_mark, norm_get, norm_size, norm_mark, norm_wr, ok_all, pairOk, wrOk, apartOk, footOf, foot, H.wr_put, H.wr_push, H.mark_put, H.mark_push, sliceCells, lenV, IntKind.wrap, IntKind.signed, IntKind.bits, back_norm, back_norm_push, back_norm_put, code_loop, iter_succ, c14, g1, s1, s2, s3]
      · rw [decide_eq_false h3] at s3
        by_cases h4 : (2048 : Int) < c.uid.length
        · rw [decide_eq_true h4] at s4
          refine ⟨3, ?_, by simp [long]; omega⟩
          simp [Fn.ef39, code_seq, code_region, code_block, ops_cons, ops_nil, runOp, simpleOp, R.bind_ok, args1, args2, env_set, put_none, opd_tmp, opd_const, gs, V.cells?, andThen_normal, andThen_ret, andThen_exit, atEnd_normal, atEnd_ret, atEnd_exit, readAt, writeAt, H.get_push, H.get_put, H.size_push, H.size_put, new_size, nbeq, nble, nblt, o2r, mkVal, fillP, setL, cut, V.okCell, binop, unop, code_cond, code_skip, code_ret, code_exit, leave_ret, leave_normal, resultsOf, resultOf, asNat, optNat, code_draw, draw_cons, draw_nil, drawn_ok, drawEnd_ok, back_get, back_size, back_mark, norm_get, norm_size, norm_mark, norm_wr, ok_all, pairOk, wrOk, apartOk, footOf, foot, H.wr_put, H.wr_push, H.mark_put, H.mark_push, sliceCells, lenV, IntKind.wrap, IntKind.signed, IntKind.bits, back_norm, back_norm_push, back_norm_put, code_loop, iter_succ, c14, g1, s1, s2, s3, s4]
        · rw [decide_eq_false h4] at s4
          refine ⟨-1, ?_, by simp [long]; omega⟩
          simp [Fn.ef39, code_seq, code_region, code_block, ops_cons, ops_nil, runOp, simpleOp, R.bind_ok, args1, args2, env_set, put_none, opd_tmp, opd_const, gs, V.cells?, andThen_normal, andThen_ret, andThen_exit, atEnd_normal, atEnd_ret, atEnd_exit, readAt, writeAt, H.get_push, H.get_put, H.size_push, H.size_put, new_size, nbeq, nble, nblt, o2r, mkVal, fillP, setL, cut, V.okCell, binop, unop, code_cond, code_skip, code_ret, code_exit, leave_ret, leave_normal, resultsOf, resultOf, asNat, optNat, code_draw, draw_cons, draw_nil, drawn_ok, drawEnd_ok, back_get, back_size, back_mark, norm_get, norm_size, norm_mark, norm_wr, ok_all, pairOk, wrOk, apartOk, footOf, foot, H.wr_put, H.wr_push, H.mark_put, H.mark_push, sliceCells, lenV, IntKind.wrap, IntKind.signed, IntKind.bits, back_norm, back_norm_push, back_norm_put, code_loop, iter_succ, c14, g1, s1, s2, s3, s4]

theorem contains_long (F : Fns C) (n fuel : Nat) (c : Ch) : body C (callN C (n + 6)) fuel Fn.ef12 [.sl 1 0 4 4 1 4 true, .func (.func 14) [] []] (longHeap c) = .ok (.bool (long c)) (longHeap c) := by
  have c39 := fun args h => F.call (f := 39) (fn := Fn.ef39) (by simp [plainFns]) (n + 5) args h
  obtain ⟨i, h1, h2⟩ := index_long F (n + 4) n c
  rw [body_eq _ _ _ _ _ _ (by simp [Fn.ef12])]
  simp [Fn.ef12, code_seq, code_region, code_block, ops_cons, ops_nil, runOp, simpleOp, R.bind_ok, args1, args2, env_set, put_none, opd_tmp, opd_const, gs, V.cells?, andThen_normal, andThen_ret, andThen_exit, atEnd_normal, atEnd_ret, atEnd_exit, readAt, writeAt, H.get_push, H.get_put, H.size_push, H.size_put, new_size, nbeq, nble, nblt, o2r, mkVal, fillP, setL, cut, V.okCell, binop, unop, code_cond, code_skip, code_ret, code_exit, leave_ret, leave_normal, resultsOf, resultOf, asNat, optNat, code_draw, draw_cons, draw_nil, drawn_ok, drawEnd_ok, back_get, back_size, back_mark, norm_get, norm_size, norm_mark, norm_wr, ok_all, pairOk, wrOk, apartOk, footOf, foot, H.wr_put, H.wr_push, H.mark_put, H.mark_push, sliceCells, lenV, IntKind.wrap, IntKind.signed, IntKind.bits, back_norm, back_norm_push, back_norm_put, c39, h1]
  simpa using h2

theorem long_run (F : Fns C) (n fuel : Nat) (c : Ch) : ∃ h', body C (callN C (n + 8)) fuel Fn.ef11 [.agg (enc c)] H.new = .ok (.bool (long c)) h' := by
  have c13 := fun args h => F.call (f := 13) (fn := Fn.ef13) (by simp [plainFns]) (n + 7) args h
  have c12 := fun args h => F.call (f := 12) (fn := Fn.ef12) (by simp [plainFns]) (n + 7) args h
  have hl := contains_long F (n + 1) (n + 7) c
  simp only [longHeap, enc] at hl
  rw [body_eq _ _ _ _ _ _ (by simp [Fn.ef11])]
  simp [Fn.ef11, code_seq, code_region, code_block, ops_cons, ops_nil, runOp, simpleOp, R.bind_ok, args1, args2, env_set, put_none, opd_tmp, opd_const, gs, V.cells?, andThen_normal, andThen_ret, andThen_exit, atEnd_normal, atEnd_ret, atEnd_exit, readAt, writeAt, H.get_push, H.get_put, H.size_push, H.size_put, new_size, nbeq, nble, nblt, o2r, mkVal, fillP, setL, cut, V.okCell, binop, unop, code_cond, code_skip, code_ret, code_exit, leave_ret, leave_normal, resultsOf, resultOf, asNat, optNat, code_draw, draw_cons, draw_nil, drawn_ok, drawEnd_ok, back_get, back_size, back_mark, norm_get, norm_size, norm_mark, norm_wr, ok_all, pairOk, wrOk, apartOk, footOf, foot, H.wr_put, H.wr_push, H.mark_put, H.mark_push, sliceCells, lenV, IntKind.wrap, IntKind.signed, IntKind.bits, back_norm, back_norm_push, back_norm_put, enc, c13, texts_run, c12, hl]
end
end Go.E
