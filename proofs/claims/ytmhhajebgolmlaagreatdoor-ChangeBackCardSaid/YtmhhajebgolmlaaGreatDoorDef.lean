/- A plain machine: how it runs a function. -/
import GoSem.Step
import Derived.Still
namespace Go.E

/-- Values of the plain machine. -/
inductive V where
  | junk
  | bool (b : Bool)
  | int (k : IntKind) (n : Int)
  | str (s : List Nat)
  | pnil
  | ptr (b off ver : Nat)
  | pimm (cs : List V)
  | snil
  | sl (b off len cap sz ver : Nat) (ex : Bool)
  | simm (cs : List V) (len : Nat) (ex : Bool)
  | mnil
  | map (b : Nat)
  | stamp (b : Nat) (k : V)
  | func (fn : Fn) (first captured : List V)
  | nilFunc
  | iface (t : TypeId) (v : V)
  | nilIface
  | agg (cs : List V)
  | tup (vs : List V)
  deriving Inhabited

def V.cells : V → List V
  | .agg cs => cs
  | v => [v]

/-- the cells of a value that is known -/
def V.cells? : V → Option (List V)
  | .junk => none
  | .agg cs => some cs
  | v => some [v]

/-- may a cell of memory hold it? -/
def V.okCell : V → Bool
  | .junk | .agg _ | .tup _ | .stamp .. => false
  | _ => true

/-- A digit, a row of eight, the place of a temporary: what a frame's temporaries are kept in. -/
inductive D where
  | d0 | d1 | d2 | d3 | d4 | d5 | d6 | d7
  deriving DecidableEq, Inhabited

structure N8 (α : Type) where
  a0 : α
  a1 : α
  a2 : α
  a3 : α
  a4 : α
  a5 : α
  a6 : α
  a7 : α

def N8.get {α : Type} (n : N8 α) : D → α
  | .d0 => n.a0 | .d1 => n.a1 | .d2 => n.a2 | .d3 => n.a3 | .d4 => n.a4 | .d5 => n.a5 | .d6 => n.a6 | .d7 => n.a7

def N8.set {α : Type} (n : N8 α) (d : D) (v : α) : N8 α :=
  match d with
  | .d0 => ⟨v, n.a1, n.a2, n.a3, n.a4, n.a5, n.a6, n.a7⟩
  | .d1 => ⟨n.a0, v, n.a2, n.a3, n.a4, n.a5, n.a6, n.a7⟩
  | .d2 => ⟨n.a0, n.a1, v, n.a3, n.a4, n.a5, n.a6, n.a7⟩
  | .d3 => ⟨n.a0, n.a1, n.a2, v, n.a4, n.a5, n.a6, n.a7⟩
  | .d4 => ⟨n.a0, n.a1, n.a2, n.a3, v, n.a5, n.a6, n.a7⟩
  | .d5 => ⟨n.a0, n.a1, n.a2, n.a3, n.a4, v, n.a6, n.a7⟩
  | .d6 => ⟨n.a0, n.a1, n.a2, n.a3, n.a4, n.a5, v, n.a7⟩
  | .d7 => ⟨n.a0, n.a1, n.a2, n.a3, n.a4, n.a5, n.a6, v⟩

def N8.all {α : Type} (v : α) : N8 α := ⟨v, v, v, v, v, v, v, v⟩

structure Ix where
  x : D
  y : D
  z : D
  deriving DecidableEq, Inhabited

def D.of : Nat → D
  | 0 => .d0 | 1 => .d1 | 2 => .d2 | 3 => .d3 | 4 => .d4 | 5 => .d5 | 6 => .d6 | _ => .d7

def ix (n : Nat) : Ix := ⟨D.of (n / 64), D.of (n / 8 % 8), D.of (n % 8)⟩

abbrev Env := N8 (N8 (N8 V))
def Env.get (e : Env) (i : Ix) : V := ((N8.get e i.x).get i.y).get i.z
def Env.set (e : Env) (i : Ix) (v : V) : Env := N8.set e i.x ((N8.get e i.x).set i.y (((N8.get e i.x).get i.y).set i.z v))
def Env.none : Env := N8.all (N8.all (N8.all (.tup [])))
def Env.args (e : Env) (i : Nat) : List V → Env
  | [] => e
  | v :: l => Env.args (e.set (ix i) v) (i + 1) l

/-- Operands. -/
inductive Opd where
  | tmp (t : Ix)
  | const (v : V)
  | glob (g : Nat)
  deriving Inhabited

/-- How two values of a type are held against each other. -/
inductive Eq' where
  | bool | int | str | ptr | nilSl | nilMap | nilFn | iface
  | parts (l : List (Nat × Option Nat × Eq'))
  deriving Inhabited

inductive EOp where
  | move (x : Opd)
  | pick (c a b : Opd)
  | alloc (elem : TypeId) (zero : List V)
  | box (elem : TypeId) (x : Opd)
  | build (zero : List V) (parts : List (Nat × Nat × Opd))
  | bslice (elem : TypeId) (len size : Nat) (zero : List V) (parts : List (Nat × Nat × Opd))
  | load (agg : Option Nat) (a : Opd)
  | store (size : Nat) (a x : Opd)
  | nilCheck (x : Opd)
  | bin (op : BinOp) (x y : Opd)
  | eql (neg : Bool) (e : Eq') (x y : Opd)
  | un (op : UnOp) (x : Opd)
  | convInt (k : IntKind) (x : Opd)
  | same (x : Opd)                      -- a conversion that changes nothing
  | toStr (x : Opd)                     -- []byte to string
  | toBytes (elem : TypeId) (x : Opd)
  | mkIface (t : TypeId) (x : Opd)
  | mkFunc (fn : Fn) (first captured : List Opd)
  | mkMap
  | mkSlice (elem : TypeId) (size bytes : Nat) (zero : List V) (l c : Opd)
  | sliceStr (x : Opd) (lo hi : Option Opd)
  | sliceSl (size : Nat) (x : Opd) (lo hi mx : Option Opd)
  | sliceArr (n size : Nat) (x : Opd) (lo hi mx : Option Opd)
  | faddr (off : Nat) (x : Opd)
  | field (off : Nat) (agg : Option Nat) (x : Opd)
  | iaddrS (size : Nat) (x i : Opd)
  | iaddrA (len size : Nat) (x i : Opd)
  | idxA (len size : Nat) (agg : Option Nat) (x i : Opd)
  | idxS (x i : Opd)
  | look (ke : Eq') (zero : V) (x i : Opd) (ok : Bool)
  | mupd (ke : Eq') (m k x : Opd)
  | ment (ke : Eq') (zero : V) (m k : Opd)
  | estore (ke : Eq') (m s x : Opd)
  | assertTo (t : TypeId) (zero : V) (ok : Bool) (x : Opd)
  | extract (x : Opd) (i : Nat)
  | call (f : Nat) (args : List Opd)
  | callV (f : Opd) (args : List Opd)
  | invoke (r : Opd) (m : String) (args : List Opd)
  | lenStr (x : Opd)
  | lenSl (x : Opd)
  | lenMap (x : Opd)
  | lenArr (n : Nat)
  | cap (x : Opd)
  | append (elem : TypeId) (size bytes : Nat) (x y : Opd)
  | zeros (elem : TypeId) (size bytes : Nat) (zero : List V) (x n : Opd)
  | copy (size : Nat) (x y : Opd)
  | clear (zero : List V) (size : Nat) (x : Opd)
  | minmax (mx : Bool) (xs : List Opd)
  | sliceData (x : Opd)
  | unsafeStr (e : TypeId) (x n : Opd)
  | toUnsafe (t : TypeId) (x : Opd)
  | ofUnsafe (t : TypeId) (x : Opd)
  | panic (x : Opd)
  | other
  deriving Inhabited

structure EOper where
  dst : Option Ix
  op : EOp
  guard : Option (Ix × Bool)
  deriving Inhabited

inductive ECode where
  | skip
  | region (ops : List EOper)
  | draw (ops : List EOper) (unord : List (Nat × Nat))
  | seq (a b : ECode)
  | cond (c : Opd) (t e : ECode)
  | block (id : Nat) (body : ECode)
  | loop (body : ECode)
  | rangeFunc (f : Opd) (params : List Ix) (assign body : ECode)
  | exit (id : Nat)
  | ret
  | bad
  deriving Inhabited

inductive ERes where
  | tmp (t : Ix)
  | cell (a : Ix) (agg : Option Nat)
  deriving Inhabited

structure EFunc where
  ntmps : Nat
  results : List ERes
  body : ECode
  deriving Inhabited

/-! Compiling -/
def ofCell : Value → V
  | .bool b => .bool b
  | .int k n => .int k n
  | .string s => .str (s.data.toList.map (·.toNat))
  | .pointer none => .pnil
  | .slice none 0 0 => .snil
  | .map none => .mnil
  | .nilFunc => .nilFunc
  | .nilIface => .nilIface
  | .func (.func f) a b => if a.isEmpty && b.isEmpty then .func (.func f) [] [] else .junk
  | _ => .junk

def ofValue : Value → V
  | .agg cs => .agg (cs.toList.map ofCell)
  | .tuple vs => if vs.isEmpty then .tup [] else .junk
  | v => ofCell v

def opd : Operand → Opd
  | .tmp t => if t < 512 then .tmp (ix t) else .const .junk
  | .const v => .const (ofValue v)
  | .global g => .glob g
  | .func f => .const (.func (.func f) [] [])

variable (P : Program)

def size? (t : TypeId) : Option Nat := (P.info? t).map (·.size)
def zero? (t : TypeId) : Option Value := (P.info? t).bind (·.zero)
def agg? (t : TypeId) : Option (Option Nat) :=
  match P.underlying t with
  | some (.struct _) | some (.array _ _) => (size? P t).map some
  | some _ => some none
  | none => none

mutual
def Eq'.isKey : Eq' → Bool
  | .bool | .int | .str => true
  | .parts l => Eq'.areKeys l
  | _ => false
def Eq'.areKeys : List (Nat × Option Nat × Eq') → Bool
  | [] => true
  | (_, _, e) :: l => e.isKey && Eq'.areKeys l
end

def eqOf : Nat → TypeId → Option Eq'
  | 0, _ => none
  | n + 1, t => match P.underlying t with
    | some .bool => some .bool
    | some (.int _) => some .int
    | some .string => some .str
    | some (.pointer e) => match size? P e with | some 0 | none => none | _ => some .ptr
    | some (.slice _) => some .nilSl
    | some (.map _ _) => some .nilMap
    | some (.func ..) => some .nilFn
    | some (.interface _) => some .iface
    | some (.struct fs) =>
      if fs.any (·.name == "_") || P.stoodInHeld t then none else
      (fs.toList.mapM fun (f : Field) => do pure (f.offset, ← agg? P f.type, ← eqOf n f.type)).map .parts
    | _ => none

def keyOf (t : TypeId) : Option Eq' := (eqOf P 10 t).filter (·.isKey)

def partsOf (t : TypeId) (ps : Array (Nat × Operand)) : Option (List (Nat × Nat × Opd)) :=
  match P.underlying t with
  | some (.struct fs) => do
    let places ← fs.toList.mapM fun f => (P.info? f.type).map fun i => (f.offset, i.size)
    ps.toList.mapM fun p => (places.toArray[p.1]?).map fun q => (q.1, q.2, opd p.2)
  | some (.array _ e) | some (.slice e) => do let s ← size? P e; pure (ps.toList.map fun (i, x) => (i * s, s, opd x))
  | _ => none

def compBuiltin (b : Builtin) (argTypes : List TypeId) (args : List Opd) : Option EOp :=
  match b, args, argTypes with
  | .len, [x], [t] =>
    (match P.underlying t with
    | some (.array n _) => some (.lenArr n)
    | some (.pointer a) => (match P.underlying a with | some (.array n _) => some (.lenArr n) | _ => none)
    | some .string => some (.lenStr x)
    | some (.slice _) => some (.lenSl x)
    | some (.map ..) => some (.lenMap x)
    | _ => none)
  | .cap, [x], [t] => (match P.underlying t with | some (.slice _) => some (.cap x) | _ => none)
  | .append, [x, y], [t, u] =>
    (match P.underlying t, P.underlying u with
    | some (.slice e), some (.int _) => (do
      let i ← P.info? e
      let z ← i.zero
      if z.cells.size ≠ i.size then none else some (.zeros e i.size i.bytes (ofValue z).cells x y))
    | some (.slice e), some (.slice _) | some (.slice e), some .string => (do
      let i ← P.info? e
      let z ← i.zero
      if z.cells.size ≠ i.size then none else some (.append e i.size i.bytes x y))
    | _, _ => none)
  | .copy, [x, y], [t, u] => (match P.underlying t with | some (.slice e) => (let _ := u; (size? P e).bind fun s => if s = 0 then none else some (.copy s x y)) | _ => none)
  | .clear, [x], [t] =>
    (match P.underlying t with
    | some (.slice e) => (do
      let i ← P.info? e
      let z ← i.zero
      if z.cells.size ≠ i.size then none else some (.clear (ofValue z).cells i.size x))
    | _ => none)
  | .max, x :: l, _ => some (.minmax true (x :: l))
  | .min, x :: l, _ => some (.minmax false (x :: l))
  | .unsafeSliceData, [x], _ => some (.sliceData x)
  | .unsafeString, [x, y], [t, _] => (match P.underlying t with | some (.pointer e) => if P.cellsOf e = 1 then some (.unsafeStr e x y) else none | _ => none)
  | .panic, [x], _ => some (.panic x)
  | _, _, _ => none

def compCall (c : Call) (type : TypeId) : Option EOp :=
  let args := c.args.toList.map opd
  match c.callee with
  | .value (.func f) => some (.call f args)
  | .value x => some (.callV (opd x) args)
  | .invoke r m => some (.invoke (opd r) m args)
  | .builtin b => let _ := type; compBuiltin P b c.argTypes.toList args

def eqFits (d : TypeDesc) (t : TypeId) (x y : Operand) : Bool :=
  match d with
  | .interface _ => (match x, y with | .const _, _ | _, .const _ => true | _, _ => false)
  | .struct _ | .array .. => !P.eqGuardType P.depth t
  | _ => true

def compBin (op : BinOp) (t : TypeId) (x y : Operand) : Option EOp := do
  match P.underlying t with
  | some (.int _) | some .string => pure (.bin op (opd x) (opd y))
  | some d =>
    if !eqFits P d t x y then none else
    let e ← eqOf P 10 t
    match op with
    | .eql => pure (.eql false e (opd x) (opd y))
    | .neq => pure (.eql true e (opd x) (opd y))
    | _ => none
  | none => none

def compOp (o : Oper) : Option EOp := do
  match o.op with
  | .move x | .assign x => pure (.move (opd x))
  | .pick c a b => pure (.pick (opd c) (opd a) (opd b))
  | .alloc e => pure (.alloc e (ofValue (← zero? P e)).cells)
  | .box e x => pure (.box e (opd x))
  | .build t ps => (match P.underlying t with | some (.slice _) => none | _ => do pure (.build (ofValue (← zero? P t)).cells (← partsOf P t ps)))
  | .buildSlice t len ps => (do
    match P.underlying t with
    | some (.slice e) =>
      let z ← zero? P e
      let s ← size? P e
      if z.cells.size ≠ s || s = 0 || len * s > 2 ^ 24 then none else pure (.bslice e len s (ofValue z).cells (← partsOf P t ps))
    | _ => none)
  | .load t a => pure (.load (← agg? P t) (opd a))
  | .store t a x => pure (.store (← size? P t) (opd a) (opd x))
  | .nilCheck x => pure (.nilCheck (opd x))
  | .binOp op t x y _ => compBin P op t x y
  | .unOp op _ x => pure (.un op (opd x))
  | .convert s d x => (do
    match P.underlying s, P.underlying d with
    | some (.int _), some (.int k) => pure (.convInt k (opd x))
    | some .string, some .string => pure (.same (opd x))
    | some .string, some (.slice e) => (match P.underlying e with | some (.int .u8) => pure (.toBytes e (opd x)) | _ => none)
    | some (.slice e), some .string => (match P.underlying e with | some (.int .u8) => pure (.toStr (opd x)) | _ => none)
    | some (.pointer t), some .unsafePointer => (match size? P t with | some 0 | none => none | some _ => pure (.toUnsafe t (opd x)))
    | some .unsafePointer, some (.pointer t) => (match size? P t with | none => none | some _ => pure (.ofUnsafe t (opd x)))
    | _, _ => none)
  | .makeInterface t x => (do
    match P.underlying t with
    | some (.interface _) | none => none
    | some _ => pure (.mkIface t (opd x)))
  | .makeFunc fn a b => (match fn with | .func f => pure (.mkFunc (.func f) (a.toList.map opd) (b.toList.map opd)) | _ => none)
  | .makeMap _ none => pure .mkMap
  | .makeSlice t l c => (do
    match P.underlying t with
    | some (.slice e) =>
      let z ← zero? P e
      let i ← P.info? e
      if z.cells.size ≠ i.size || i.size = 0 then none else pure (.mkSlice e i.size i.bytes (ofValue z).cells (opd l) (opd c))
    | _ => none)
  | .slice t x lo hi mx => (do
    if hi.isNone && mx.isSome then none else
    match P.underlying t with
    | some .string => if mx.isNone then pure (.sliceStr (opd x) (lo.map opd) (hi.map opd)) else none
    | some (.slice e) => pure (.sliceSl (← size? P e) (opd x) (lo.map opd) (hi.map opd) (mx.map opd))
    | some (.array n e) => pure (.sliceArr n (← size? P e) (opd x) (lo.map opd) (hi.map opd) (mx.map opd))
    | _ => none)
  | .fieldAddr s x f => (do
    match P.underlying s with
    | some (.struct fs) => (do
      let g ← fs[f]?
      match size? P g.type with
      | some 0 | none => none
      | some _ => pure (.faddr g.offset (opd x)))
    | _ => none)
  | .field s x f => (do
    match P.underlying s with
    | some (.struct fs) =>
      let g ← fs[f]?
      pure (.field g.offset (← agg? P g.type) (opd x))
    | _ => none)
  | .indexAddr t x i => (do
    match P.underlying t with
    | some (.slice e) => pure (.iaddrS (← size? P e) (opd x) (opd i))
    | some (.array n e) => pure (.iaddrA n (← size? P e) (opd x) (opd i))
    | _ => none)
  | .index t x i => (do
    match P.underlying t with
    | some (.array n e) => pure (.idxA n (← size? P e) (← agg? P e) (opd x) (opd i))
    | some .string => pure (.idxS (opd x) (opd i))
    | _ => none)
  | .lookup t x i ok => (do
    match P.underlying t with
    | some (.map k e) => pure (.look (← keyOf P k) (ofValue (← zero? P e)) (opd x) (opd i) ok)
    | _ => none)
  | .mapUpdate t m k x | .insert t m k x => (do
    match P.underlying t with
    | some (.map kt _) => pure (.mupd (← keyOf P kt) (opd m) (opd k) (opd x))
    | _ => none)
  | .mapEntry t m k => (do
    match P.underlying t with
    | some (.map kt e) => pure (.ment (← keyOf P kt) (ofValue (← zero? P e)) (opd m) (opd k))
    | _ => none)
  | .entryStore t m s x => (do
    match P.underlying t with
    | some (.map kt _) => pure (.estore (← keyOf P kt) (opd m) (opd s) (opd x))
    | _ => none)
  | .typeAssert x _ t ok => (do
    match P.underlying t with
    | some (.interface _) | none => none
    | some _ => pure (.assertTo t (ofValue (← zero? P t)) ok (opd x)))
  | .extract x i => pure (.extract (opd x) i)
  | .call c => compCall P c o.type
  | .panic x => pure (.panic (opd x))
  | _ => none

def EOp.isCall : EOp → Bool
  | .call .. | .callV .. | .invoke .. => true
  | _ => false

def callsCode : Op → Bool
  | .call c => (match c.callee with | .builtin _ => false | _ => true)
  | _ => false

/-- compiled, the calls told from the rest -/
def compOpK (o : Oper) : Option EOp := (compOp P o).filter fun e => e.isCall == callsCode o.op

/-- n: how many temporaries there are -/
def compOper (n : Nat) (ops : Array Oper) (o : Oper) : EOper :=
  { dst := o.dst.map ix, op := (if o.dst.all (· < n) then (compOpK P o).getD .other else .other),
    guard := if o.dst.all (· < n) then o.guard.map fun (j, want) => (ix ((((ops[j]?).bind (·.dst)).filter (· < n)).getD 511), want) else none }

def Opd.ixs : Opd → List Ix
  | .tmp t => [t]
  | _ => []

/-- the operands that an operation looks at -/
def EOp.opds : EOp → List Opd
  | .move x | .box _ x | .load _ x | .nilCheck x | .un _ x | .convInt _ x | .same x | .toStr x | .toBytes _ x | .mkIface _ x | .faddr _ x | .field _ _ x
  | .assertTo _ _ _ x | .extract x _ | .lenStr x | .lenSl x | .lenMap x | .cap x | .clear _ _ x | .sliceData x | .toUnsafe _ x | .ofUnsafe _ x | .panic x => [x]
  | .pick c a b => [c, a, b]
  | .alloc .. | .mkMap | .lenArr _ | .other => []
  | .build _ ps | .bslice _ _ _ _ ps => ps.map (·.2.2)
  | .store _ a x => [a, x]
  | .bin _ x y | .eql _ _ x y => [x, y]
  | .mkFunc _ a b => a ++ b
  | .mkSlice _ _ _ _ l c => [l, c]
  | .sliceStr x lo hi => x :: (lo.toList ++ hi.toList)
  | .sliceSl _ x lo hi mx | .sliceArr _ _ x lo hi mx => x :: (lo.toList ++ hi.toList ++ mx.toList)
  | .iaddrS _ x i | .iaddrA _ _ x i | .idxA _ _ _ x i | .idxS x i => [x, i]
  | .look _ _ m k _ | .ment _ _ m k => [m, k]
  | .mupd _ m k x => [m, k, x]
  | .estore _ m s x => [m, s, x]
  | .call _ args => args
  | .callV f args => f :: args
  | .invoke r _ args => r :: args
  | .append _ _ _ x y | .copy _ x y | .unsafeStr _ x y => [x, y]
  | .zeros _ _ _ _ x n => [x, n]
  | .minmax _ xs => xs

/-- an operation looks at nothing but its operands -/
def opsOk (n : Nat) (ops : Array Oper) : Bool :=
  ops.toList.all fun o => (compOper P n ops o).op.opds.all fun x => x.ixs.all fun t => o.op.operands.toList.any fun | .tmp u => decide (u < 512) && decide (ix u = t) | _ => false

def unordOf (ops : Array Oper) : List (Nat × Nat) :=
  let b := Region.before ops
  (List.range ops.size).flatMap fun j => ((List.range j).filter fun i => !(b.getD j 0).testBit i).map fun i => (i, j)

/-- rnd: within a round of a range over a function -/
def compCode (n : Nat) (rnd : Bool) : Code → ECode
  | .skip => .skip
  | .region _ ops false => .region (ops.toList.map (compOper P n ops))
  | .region _ ops true => if Region.lexB .any ops && opsOk P n ops then .draw (ops.toList.map (compOper P n ops)) (unordOf ops) else .bad
  | .seq a b => .seq (compCode n rnd a) (compCode n rnd b)
  | .cond c a b => .cond (opd c) (compCode n rnd a) (compCode n rnd b)
  | .block i c => .block i (compCode n rnd c)
  | .loop c => .loop (compCode n rnd c)
  | .rangeFunc f ps a b => if !rnd && ps.all (· < n) then .rangeFunc (opd f) (ps.toList.map ix) (compCode n true a) (compCode n true b) else .bad
  | .exit i => .exit i
  | .ret => .ret
  | _ => .bad

def compRes : ResultVar → Option ERes
  | .tmp t => if t < 512 then some (ERes.tmp (ix t)) else none
  | .cell a t => if a < 512 then (agg? P t).map (ERes.cell (ix a)) else none

def compFunc (f : Func) : Option EFunc :=
  if f.ntmps > 511 then none else
  match f.body, f.results.toList.mapM (compRes P) with
  | some b, some rs => some { ntmps := f.ntmps, results := rs, body := compCode P f.ntmps false b }
  | _, _ => none

end Go.E

namespace Go.E

inductive Blk where
  /-- kind: 0: just these cells; 1: it may have more behind them; 2: that, and its end is marked -/
  | cells (cs : List V) (elem : TypeId) (kind : Nat) (frz : Nat)
  | map (es : List (V × V))
  | loop (params : List Ix) (env : Env) (assign body : ECode) (state : Nat) (pending : Option ECode)
  deriving Inhabited

inductive T where
  | e
  | n (l : T) (v : Option Blk) (r : T)

def T.get : T → Nat → Option Blk
  | .e, _ => none
  | .n l v r, k => bif Nat.beq k 0 then v else bif Nat.beq (k % 2) 1 then l.get (k / 2) else r.get (k / 2 - 1)

def T.set : Nat → T → Nat → Blk → T
  | 0, t, _, _ => t
  | f + 1, .e, k, b => bif Nat.beq k 0 then .n .e (some b) .e else bif Nat.beq (k % 2) 1 then .n (T.set f .e (k / 2) b) none .e else .n .e none (T.set f .e (k / 2 - 1) b)
  | f + 1, .n l v r, k, b => bif Nat.beq k 0 then .n l (some b) r else bif Nat.beq (k % 2) 1 then .n (T.set f l (k / 2) b) v r else .n l v (T.set f r (k / 2 - 1) b)

/-- The heap: its blocks, how many numbers are given, from which number on writes are not told, the writes told. -/
structure H where
  mem : T
  size : Nat
  mark : Nat
  wr : List Nat

def H.new : H := { mem := .e, size := 0, mark := 0, wr := [] }
def H.get (h : H) (b : Nat) : Option Blk := h.mem.get b
def H.put (h : H) (b : Nat) (x : Blk) : H :=
  { h with mem := h.mem.set (b + 1) b x, wr := bif Nat.blt b h.mark then b :: h.wr else h.wr }
def H.push (h : H) (x : Blk) : H := { h with mem := h.mem.set (h.size + 1) h.size x, size := h.size + 1 }

inductive R (α : Type) where
  | ok (a : α) (h : H)
  | pan (v : V) (h : H)
  | fail
instance {α} : Inhabited (R α) := ⟨.fail⟩

def R.bind {α β} (r : R α) (f : α → H → R β) : R β :=
  match r with
  | .ok a h => f a h
  | .pan v h => .pan v h
  | .fail => .fail

/-- What stands ready for functions that are not run. -/
inductive Sp where
  | noEscape | indexByteString | index (mx : Nat) | try_
  deriving Inhabited

structure Ctx where
  func : Nat → Option EFunc
  glob : Nat → List V
  meth : Nat → String → Option Nat
  spec : Nat → Option Sp
  /-- functions that are run apart, over values without memory of this run -/
  lies : Nat → Nat → Nat → Nat → Bool
  apart : Nat → Bool
  memo : Nat → List V → Option V

inductive Ex where
  | normal
  | exit (id : Nat)
  | ret
  deriving Inhabited

def Opd.get (C : Ctx) (env : Env) : Opd → V
  | .tmp t => env.get t
  | .const v => v
  | .glob g => .pimm (C.glob g)

def setL (l : List V) (i : Nat) : List V → List V
  | [] => l
  | v :: vs => setL (l.set i v) (i + 1) vs

/-- the first so many, if there -/
def cut : Nat → List V → Option (List V)
  | 0, _ => some []
  | _ + 1, [] => none
  | n + 1, v :: l => (cut n l).map (v :: ·)

def mkVal (agg : Option Nat) (l : List V) : Option V :=
  match agg with
  | some n => (cut n l).map .agg
  | none => match l with | v :: _ => some v | [] => none

def readAt (h : H) (b off ver : Nat) : Option (List V) :=
  match h.get b with
  | some (.cells cs _ _ _) => bif Nat.beq ver cs.length then some (cs.drop off) else none
  | _ => none

def writeAt (h : H) (b off ver : Nat) (vs : List V) : Option H :=
  match h.get b with
  | some (.cells cs e g frz) =>
    bif Nat.ble (off + vs.length) cs.length && Nat.ble frz off && Nat.beq ver cs.length && vs.all V.okCell then
      some (h.put b (.cells (setL cs off vs) e g frz))
    else none
  | _ => none

def sliceCells (h : H) (size : Nat) : V → Option (List V)
  | .snil => some []
  | .sl b off len _ sz ver _ => bif Nat.beq sz size then (readAt h b off ver).bind (cut (len * size)) else none
  | .simm cs len _ => cut (len * size) cs
  | .str s => bif Nat.beq size 1 then some (s.map fun (n : Nat) => V.int .u8 n) else none
  | _ => none

def lenV : V → Option Nat
  | .snil => some 0
  | .sl _ _ n _ _ _ _ => some n
  | .simm _ n _ => some n
  | .str s => some s.length
  | _ => none

mutual
def beqV : V → V → Bool
  | .bool a, .bool b => a == b
  | .int k a, .int k' b => decide (k = k') && a == b
  | .str a, .str b => a == b
  | .agg a, .agg b => beqL a b
  | _, _ => false
def beqL : List V → List V → Bool
  | [], [] => true
  | a :: x, b :: y => beqV a b && beqL x y
  | _, _ => false
end

-- keys of maps: data alone
def isPrim : V → Bool
  | .bool _ | .int _ _ | .str _ => true
  | _ => false
def isKey : V → Bool
  | .agg l => l.all isPrim
  | v => isPrim v

-- values without memory
mutual
def flat : V → Bool
  | .junk | .bool _ | .int _ _ | .str _ | .pnil | .snil | .mnil | .nilFunc | .nilIface => true
  | .simm [] _ _ => true
  | .iface _ v => flat v
  | .agg l | .tup l => flats l
  | _ => false
def flats : List V → Bool
  | [] => true
  | a :: l => flat a && flats l
end

-- values that hold nothing of this run's memory
mutual
def closed : V → Bool
  | .ptr .. | .sl .. | .map _ | .stamp .. => false
  | .pimm l | .simm l _ _ | .agg l | .tup l => closeds l
  | .iface _ v => closed v
  | .func (.yield _) _ _ => false
  | .func _ a b => closeds a && closeds b
  | _ => true
def closeds : List V → Bool
  | [] => true
  | a :: l => closed a && closeds l
end

-- what a value reads as, the blocks on the way
mutual
def resolve : Nat → H → V → Option (V × List Nat)
  | 0, _, _ => none
  | n + 1, h, v => bif closed v then some (v, []) else match v with
    | .ptr b off ver => do
      let l ← readAt h b off ver
      let (l, bs) ← resolves n h l
      pure (.pimm l, b :: bs)
    | .sl b off len cap sz ver ex => do
      let l ← readAt h b off ver
      let l ← cut (len * sz) l
      let (l, bs) ← resolves n h l
      pure (.simm l len (ex && Nat.beq len cap), b :: bs)
    | .pimm l => do let (l, bs) ← resolves n h l; pure (.pimm l, bs)
    | .simm l k ex => do let (l, bs) ← resolves n h l; pure (.simm l k ex, bs)
    | .agg l => do let (l, bs) ← resolves n h l; pure (.agg l, bs)
    | .tup l => do let (l, bs) ← resolves n h l; pure (.tup l, bs)
    | .iface t v => do let (v, bs) ← resolve n h v; pure (.iface t v, bs)
    | .func (.func f) a b => do let (a, bs) ← resolves n h a; let (b, cs) ← resolves n h b; pure (.func (.func f) a b, bs ++ cs)
    | _ => none
def resolves : Nat → H → List V → Option (List V × List Nat)
  | 0, _, _ => none
  | n + 1, h, l => bif closeds l then some (l, []) else match l with
    | [] => some ([], [])
    | v :: l => do
      let (v, bs) ← resolve n h v
      let (l, cs) ← resolves n h l
      pure (v :: l, bs ++ cs)
end

def freezeB (h : H) : List Nat → H
  | [] => h
  | b :: bs => match h.get b with
    | some (.cells cs e g frz) => freezeB (h.put b (.cells cs e g (max frz cs.length))) bs
    | _ => freezeB h bs

def eqInt : V → V → Bool
  | .int k a, .int k' b => decide (k = k') && a == b
  | _, _ => false

def eqV : Nat → Eq' → V → V → Option Bool
  | 0, _, _, _ => none
  | n + 1, e, x, y =>
    match e, x, y with
    | .bool, .bool a, .bool b => some (a == b)
    | .int, .int k a, .int k' b => if k = k' then some (a == b) else none
    | .str, .str a, .str b => some (a == b)
    | .ptr, .pnil, .pnil => some true
    | .ptr, .pnil, .ptr .. | .ptr, .ptr .., .pnil => some false
    | .ptr, .ptr b o u, .ptr c p v => if b = c ∧ u = v then some (o == p) else none
    | .nilSl, .snil, .snil => some true
    | .nilSl, .snil, .sl .. | .nilSl, .snil, .simm .. | .nilSl, .sl .., .snil | .nilSl, .simm .., .snil => some false
    | .nilMap, .mnil, .mnil => some true
    | .nilMap, .mnil, .map _ | .nilMap, .map _, .mnil => some false
    | .nilFn, .nilFunc, .nilFunc => some true
    | .nilFn, .nilFunc, .func .. | .nilFn, .func .., .nilFunc => some false
    | .iface, .nilIface, .iface .. | .iface, .iface .., .nilIface => some false
    | .iface, .nilIface, .nilIface => some true
    | .parts l, .agg xs, .agg ys => go n l xs ys
    | _, _, _ => none
  where
  go (n : Nat) : List (Nat × Option Nat × Eq') → List V → List V → Option Bool
    | [], _, _ => some true
    | (off, g, e) :: l, xs, ys =>
      match mkVal g (xs.drop off), mkVal g (ys.drop off) with
      | some a, some b => (match eqV n e a b with
        | some true => go n l xs ys
        | some false => some false
        | none => none)
      | _, _ => none

/-- two keys held against each other, both ways alike -/
def keq (q : Eq') (a b : V) : Option Bool :=
  match eqV 12 q a b with
  | some t => bif t == beqV a b then some t else none
  | none => none
def keyOk (q : Eq') (a : V) : Bool := isKey a && (match keq q a a with | some t => t | none => false)

/-- what stands at a key; none: it cannot be told -/
def findE (q : Eq') (k : V) : List (V × V) → Option (Option V)
  | [] => some none
  | (a, v) :: es => match keq q k a with
    | some true => some (some v)
    | some false => findE q k es
    | none => none

def updE (q : Eq') (k x : V) : List (V × V) → Option (List (V × V))
  | [] => some [(k, x)]
  | (a, v) :: es => match keq q k a with
    | some true => some ((a, x) :: es)
    | some false => (updE q k x es).map ((a, v) :: ·)
    | none => none

def bytesLt : List Nat → List Nat → Bool
  | _, [] => false
  | [], _ :: _ => true
  | a :: x, b :: y => Nat.blt a b || (Nat.beq a b && bytesLt x y)

def binop (op : BinOp) (x y : V) : Option V :=
  match x, y with
  | .int k a, .int yk b =>
    match op with
    | .shl => if b < 0 then none else some (.int k (k.wrap (a * 2 ^ (min b.toNat k.bits))))
    | .shr => if b < 0 then none else some (.int k (a.fdiv (2 ^ (min b.toNat k.bits))))
    | _ => if k ≠ yk then none else
      match op with
      | .add => some (.int k (k.wrap (a + b)))
      | .sub => some (.int k (k.wrap (a - b)))
      | .mul => some (.int k (k.wrap (a * b)))
      | .quo => if b = 0 then none else some (.int k (k.wrap (a.tdiv b)))
      | .rem => if b = 0 then none else some (.int k (a.tmod b))
      | .and => some (.int k (k.wrap (BitVec.ofInt k.bits a &&& BitVec.ofInt k.bits b).toNat))
      | .or => some (.int k (k.wrap (BitVec.ofInt k.bits a ||| BitVec.ofInt k.bits b).toNat))
      | .xor => some (.int k (k.wrap (BitVec.ofInt k.bits a ^^^ BitVec.ofInt k.bits b).toNat))
      | .andNot => some (.int k (k.wrap (BitVec.ofInt k.bits a &&& ~~~ BitVec.ofInt k.bits b).toNat))
      | .eql => some (.bool (a == b))
      | .neq => some (.bool (a != b))
      | .lss => some (.bool (a < b))
      | .leq => some (.bool (a ≤ b))
      | .gtr => some (.bool (a > b))
      | .geq => some (.bool (a ≥ b))
      | _ => none
  | .str a, .str b =>
    match op with
    | .add => bif Nat.ble (a.length + b.length) 1099511627776 then some (.str (a ++ b)) else none
    | .eql => some (.bool (a == b))
    | .neq => some (.bool (a != b))
    | .lss => some (.bool (bytesLt a b))
    | .leq => some (.bool (bytesLt a b || a == b))
    | .gtr => some (.bool (!(bytesLt a b || a == b)))
    | .geq => some (.bool (!bytesLt a b))
    | _ => none
  | _, _ => none

def unop (op : UnOp) (x : V) : Option V :=
  match op, x with
  | .neg, .int k n => some (.int k (k.wrap (0 - n)))
  | .xor, .int k n => some (.int k (k.wrap (BitVec.ofInt k.bits (if k.signed then -1 else k.max) ^^^ BitVec.ofInt k.bits n).toNat))
  | .not, .bool b => some (.bool !b)
  | _, _ => none

def asNat (v : V) : Option Nat := match v with | .int _ n => if 0 ≤ n then some n.toNat else none | _ => none

/-- a byte's number -/
def asByte (v : V) : Option Nat := match v with | .int .u8 n => if 0 ≤ n ∧ n < 256 then some n.toNat else none | _ => none

def o2r {α} (x : Option α) (h : H) : R α := match x with | some a => .ok a h | none => .fail

def fillP (C : Ctx) (env : Env) : List V → List (Nat × Nat × Opd) → Option (List V)
  | cs, [] => some cs
  | cs, (off, size, x) :: ps =>
    match (x.get C env).cells? with
    | some vs => bif Nat.beq vs.length size && Nat.ble (off + size) cs.length then fillP C env (setL cs off vs) ps else none
    | none => none

def repl (n : Nat) (l : List V) : List V := (List.replicate n l).flatten

/-- room for an append (a bound far below the model's) -/
def roomy (n bytes : Nat) : Bool := Nat.ble (n * bytes) 1099511627776

def optNat (C : Ctx) (env : Env) (d : Nat) : Option Opd → Option Nat
  | none => some d
  | some x => asNat (x.get C env)

/-- 'append', what is appended being there -/
def appendE (h : H) (e : TypeId) (size bytes : Nat) (new : List V) (k : Nat) (x : V) : R V :=
  bif Nat.beq size 0 || Nat.beq bytes 0 || !new.all V.okCell then .fail else
  (match x with
  | .snil => bif Nat.beq k 0 then .ok .snil h else bif roomy k bytes then .ok (.sl h.size 0 k k size new.length false) (h.push (.cells new e 1 0)) else .fail
  | .simm cs len ex => bif Nat.beq k 0 then .ok (.simm cs len ex) h else bif ex && roomy (len + k) bytes then
      (match cut (len * size) cs with
      | some old => .ok (.sl h.size 0 (len + k) (len + k) size (old ++ new).length false) (h.push (.cells (old ++ new) e 1 0))
      | none => .fail)
      else .fail
  | .sl b off len cap sz ver ex => bif !(Nat.beq sz size) then .fail else bif Nat.beq k 0 then .ok (.sl b off len cap sz ver ex) h else
    bif Nat.ble (len + k) cap then
      (match writeAt h b (off + len * size) ver new with
      | some h => .ok (.sl b off (len + k) cap sz ver ex) h
      | none => .fail)
    else bif !(roomy (len + k) bytes) then .fail
    else bif ex then
      (match sliceCells h size (.sl b off len cap sz ver ex) with
      | some old => .ok (.sl h.size 0 (len + k) (len + k) size (old ++ new).length false) (h.push (.cells (old ++ new) e 1 0))
      | none => .fail)
    else
      (match h.get b with
      | some (.cells cs e' kind frz) =>
        let cs' := cs.take (off + len * size) ++ new
        bif Nat.beq off 0 && Nat.blt 0 kind && Nat.beq ver cs.length && Nat.beq (off + cap * size) cs.length && Nat.ble frz (off + len * size) && Nat.beq e e' && Nat.beq new.length (k * size) then
          .ok (.sl b off (len + k) (len + k) size cs'.length false) (h.put b (.cells cs' e' kind frz))
        else .fail
      | _ => .fail)
  | _ => .fail)

def simpleOp (C : Ctx) (env : Env) (h : H) : EOp → R V
  | .move x => .ok (x.get C env) h
  | .pick c a b => match c.get C env with | .bool t => .ok (if t then a.get C env else b.get C env) h | _ => .fail
  | .alloc e z => .ok (.ptr h.size 0 z.length) (h.push (.cells z e 0 0))
  | .box e x => match (x.get C env).cells? with
    | some cs => .ok (.ptr h.size 0 cs.length) (h.push (.cells cs e 0 0))
    | none => .fail
  | .build z ps => o2r ((fillP C env z ps).map .agg) h
  | .bslice e len size z ps => match fillP C env (repl len z) ps with
    | some cs => .ok (.sl h.size 0 len len size cs.length true) (h.push (.cells cs e 0 0))
    | none => .fail
  | .load agg a => match a.get C env with
    | .ptr b off ver => o2r ((readAt h b off ver).bind (mkVal agg)) h
    | .pimm cs => o2r (mkVal agg cs) h
    | _ => .fail
  | .store size a x => match a.get C env with
    | .ptr b off ver =>
      (match (x.get C env).cells? with
      | some vs => bif Nat.beq vs.length size then (match writeAt h b off ver vs with | some h => .ok (.tup []) h | none => .fail) else .fail
      | none => .fail)
    | _ => .fail
  | .nilCheck x => match x.get C env with
    | .ptr b o v => .ok (.ptr b o v) h
    | .pimm c => .ok (.pimm c) h
    | .func (.func f) a b => .ok (.func (.func f) a b) h
    | .iface t v => .ok (.iface t v) h
    | .agg l => .ok (.agg l) h
    | _ => .fail
  | .bin op x y => o2r (binop op (x.get C env) (y.get C env)) h
  | .eql neg e x y => o2r ((eqV 20 e (x.get C env) (y.get C env)).map fun b => .bool (if neg then !b else b)) h
  | .un op x => o2r (unop op (x.get C env)) h
  | .convInt k x => match x.get C env with | .int _ n => .ok (.int k (k.wrap n)) h | _ => .fail
  | .same x => match x.get C env with | .str l => .ok (.str l) h | _ => .fail
  | .toStr x => o2r ((match x.get C env with | .str _ => none | v => sliceCells h 1 v).bind fun cs => (cs.mapM asByte).map .str) h
  | .toBytes e x => match x.get C env with
    | .str s => .ok (.sl h.size 0 s.length s.length 1 s.length false) (h.push (.cells (s.map fun (n : Nat) => V.int .u8 n) e 2 0))
    | _ => .fail
  | .mkIface t x => .ok (.iface t (x.get C env)) h
  | .mkFunc fn a b => .ok (.func fn (a.map (·.get C env)) (b.map (·.get C env))) h
  | .mkMap => .ok (.map h.size) (h.push (.map []))
  | .mkSlice e size bytes z l c => match asNat (l.get C env), asNat (c.get C env) with
    | some l, some c => bif Nat.ble l c && Nat.ble (bytes * c) 1099511627776 && Nat.ble c 1099511627776 then .ok (.sl h.size 0 l c size (c * size) true) (h.push (.cells (repl c z) e 0 0)) else .fail
    | _, _ => .fail
  | .sliceStr x lo hi => match x.get C env with
    | .str s =>
      (match optNat C env 0 lo, optNat C env s.length hi with
      | some l, some u => bif Nat.ble l u && Nat.ble u s.length then .ok (.str ((s.drop l).take (u - l))) h else .fail
      | _, _ => .fail)
    | _ => .fail
  | .sliceSl size x lo hi mx =>
    match x.get C env with
    | .snil => (match optNat C env 0 lo, optNat C env 0 hi, optNat C env 0 mx with
      | some 0, some 0, some 0 => .ok .snil h
      | _, _, _ => .fail)
    | .sl b off len cap sz ver ex =>
      (match optNat C env 0 lo, optNat C env len hi, optNat C env cap mx with
      | some l, some u, some m =>
        bif Nat.beq sz size && Nat.ble l u && Nat.ble u m && Nat.ble m cap then .ok (.sl b (off + l * size) (u - l) (m - l) size ver (ex || mx.isSome)) h else .fail
      | _, _, _ => .fail)
    | .simm cs len ex =>
      (match optNat C env 0 lo, optNat C env len hi, optNat C env len mx with
      | some l, some u, some m =>
        bif Nat.ble l u && Nat.ble u m && Nat.ble m len then .ok (.simm ((cs.drop (l * size)).take ((u - l) * size)) (u - l) ((ex || mx.isSome) && Nat.beq u m)) h else .fail
      | _, _, _ => .fail)
    | _ => .fail
  | .sliceArr n size x lo hi mx =>
    match x.get C env, optNat C env 0 lo, optNat C env n hi, optNat C env n mx with
    | .ptr b off ver, some l, some u, some m => (match h.get b with
      | some (.cells cs _ _ _) => bif Nat.ble l u && Nat.ble u m && Nat.ble m n && Nat.beq ver cs.length && Nat.ble (off + n * size) ver then .ok (.sl b (off + l * size) (u - l) (m - l) size ver true) h else .fail
      | _ => .fail)
    | _, _, _, _ => .fail
  | .faddr off x => match x.get C env with
    | .ptr b o v => .ok (.ptr b (o + off) v) h
    | .pimm cs => .ok (.pimm (cs.drop off)) h
    | _ => .fail
  | .field off agg x => match x.get C env with
    | .agg cs => o2r (mkVal agg (cs.drop off)) h
    | _ => .fail
  | .iaddrS size x i => match x.get C env, asNat (i.get C env) with
    | .sl b off len _ sz ver _, some i => bif Nat.blt i len && Nat.beq sz size then .ok (.ptr b (off + i * size) ver) h else .fail
    | .simm cs len _, some i => bif Nat.blt i len && !cs.isEmpty then .ok (.pimm (cs.drop (i * size))) h else .fail
    | _, _ => .fail
  | .iaddrA len size x i => match x.get C env, asNat (i.get C env) with
    | .ptr b off ver, some i => bif Nat.blt i len then .ok (.ptr b (off + i * size) ver) h else .fail
    | .pimm cs, some i => bif Nat.blt i len then .ok (.pimm (cs.drop (i * size))) h else .fail
    | _, _ => .fail
  | .idxA len size agg x i => match x.get C env, asNat (i.get C env) with
    | .agg cs, some i => bif Nat.blt i len then o2r (mkVal agg (cs.drop (i * size))) h else .fail
    | _, _ => .fail
  | .idxS x i => match x.get C env, asNat (i.get C env) with
    | .str s, some i => (match s[i]? with | some n => .ok (.int .u8 n) h | none => .fail)
    | _, _ => .fail
  | .look q z m k ok =>
    let k := k.get C env
    bif !keyOk q k then .fail else
    match m.get C env with
    | .mnil => .ok (if ok then .tup [z, .bool false] else z) h
    | .map b => (match h.get b with
      | some (.map es) =>
        (match findE q k es with
        | some (some v) => .ok (if ok then .tup [v, .bool true] else v) h
        | some none => .ok (if ok then .tup [z, .bool false] else z) h
        | none => .fail)
      | _ => .fail)
    | _ => .fail
  | .mupd q m k x =>
    let k := k.get C env
    bif !keyOk q k then .fail else
    match m.get C env with
    | .map b => (match h.get b with
      | some (.map es) => (match updE q k (x.get C env) es with
        | some es => .ok (.tup []) (h.put b (.map es))
        | none => .fail)
      | _ => .fail)
    | _ => .fail
  | .ment q z m k =>
    let k := k.get C env
    bif !keyOk q k then .fail else
    match m.get C env with
    | .map b => (match h.get b with
      | some (.map es) =>
        (match findE q k es with
        | some (some v) => .ok (.tup [v, .stamp b k]) (h.put b (.map es))
        | some none => .ok (.tup [z, .stamp b k]) (h.put b (.map (es ++ [(k, z)])))
        | none => .fail)
      | _ => .fail)
    | _ => .fail
  | .estore q m s x => match m.get C env, s.get C env with
    | .map b, .stamp c k => if b = c then (match h.get b with
      | some (.map es) => (match updE q k (x.get C env) es with
        | some es => .ok (.tup []) (h.put b (.map es))
        | none => .fail)
      | _ => .fail) else .fail
    | _, _ => .fail
  | .assertTo t z ok x => match x.get C env with
    | .iface u v => if u = t then .ok (if ok then .tup [v, .bool true] else v) h else if ok then .ok (.tup [z, .bool false]) h else .fail
    | .nilIface => if ok then .ok (.tup [z, .bool false]) h else .fail
    | _ => .fail
  | .extract x i => match x.get C env with
    | .tup l => o2r l[i]? h
    | _ => .fail
  | .lenStr x => match x.get C env with
    | .str s => .ok (.int .i64 s.length) h
    | _ => .fail
  | .lenSl x => match x.get C env with
    | .snil => .ok (.int .i64 0) h
    | .sl _ _ n _ _ _ _ => .ok (.int .i64 n) h
    | .simm _ n _ => .ok (.int .i64 n) h
    | _ => .fail
  | .lenMap x => match x.get C env with
    | .mnil => .ok (.int .i64 0) h
    | .map b => (match h.get b with | some (.map es) => .ok (.int .i64 es.length) h | _ => .fail)
    | _ => .fail
  | .lenArr n => .ok (.int .i64 n) h
  | .cap x => match x.get C env with
    | .snil => .ok (.int .i64 0) h
    | .sl _ _ _ cap _ _ true => .ok (.int .i64 cap) h
    | .simm _ len true => .ok (.int .i64 len) h
    | _ => .fail
  | .append e size bytes x y => match sliceCells h size (y.get C env), lenV (y.get C env) with
    | some new, some k => appendE h e size bytes new k (x.get C env)
    | _, _ => .fail
  | .zeros e size bytes z x n => match x.get C env, asNat (n.get C env) with
    | .snil, some n => bif Nat.beq size 0 || Nat.beq bytes 0 || Nat.beq n 0 || !(roomy n bytes) then .fail else .ok (.sl h.size 0 n n size (repl n z).length false) (h.push (.cells (repl n z) e 1 0))
    | _, _ => .fail
  | .copy size x y =>
    let y := y.get C env
    match x.get C env, lenV y with
    | .snil, some _ => .ok (.int .i64 0) h
    | .sl b off len _ sz ver _, some k =>
      bif !(Nat.beq sz size) then .fail else
      let n := min k len
      (match (sliceCells h size y).bind (cut (n * size)) with
      | some vs => bif Nat.beq n 0 then .ok (.int .i64 0) h else (match writeAt h b off ver vs with | some h => .ok (.int .i64 n) h | none => .fail)
      | none => .fail)
    | _, _ => .fail
  | .clear z size x => match x.get C env with
    | .snil => .ok (.tup []) h
    | .sl b off len _ sz ver _ => bif !(Nat.beq sz size) then .fail else bif Nat.beq len 0 then .ok (.tup []) h else (match writeAt h b off ver (repl len z) with | some h => .ok (.tup []) h | none => .fail)
    | _ => .fail
  | .minmax mx xs => match xs.map (·.get C env) with
    | [] => .fail
    | x :: l => o2r (l.foldlM (fun a b => match a, b with
      | .int k m, .int _ n => some (.int k (if mx then (if n > m then n else m) else (if n < m then n else m)))
      | _, _ => none) x) h
  | .sliceData x => match x.get C env with
    | .snil => .ok .pnil h
    | .sl b off _ cap sz ver _ => bif Nat.beq cap 0 || !(Nat.beq sz 1) then .fail else .ok (.ptr b off ver) h
    | _ => .fail
  | .toUnsafe _ x => match x.get C env with
    | .pnil => .ok .pnil h
    | .ptr b off ver => (match h.get b with
      | some (.cells cs _ _ _) => bif Nat.beq ver cs.length && Nat.blt off ver then .ok (.ptr b off ver) h else .fail
      | _ => .fail)
    | _ => .fail
  | .ofUnsafe t x => match x.get C env with
    | .pnil => .ok .pnil h
    | .ptr b off ver => (match h.get b with
      | some (.cells cs e _ _) => bif Nat.beq ver cs.length && C.lies e cs.length off t then .ok (.ptr b off ver) h else .fail
      | _ => .fail)
    | _ => .fail
  | .unsafeStr e x n => match x.get C env, n.get C env with
    | .pnil, .int k m => if k = .i64 ∧ m = 0 then .ok (.str []) h else .fail
    | .ptr b off ver, .int k m => (match (if k = .i64 then asNat (.int .i64 m) else none) with
      | some n => bif Nat.beq n 0 then .ok (.str []) h else
        (match h.get b with
        | some (.cells cs e' g frz) => bif Nat.beq off 0 && Nat.beq ver cs.length && Nat.beq e e' && Nat.blt g 2 && Nat.ble n 1099511627776 then
          (match (cut n cs).bind (·.mapM asByte) with
          | some s => .ok (.str s) (h.put b (.cells cs e' g (max frz n)))
          | none => .fail) else .fail
        | _ => .fail)
      | none => .fail)
    | _, _ => .fail
  | .panic x => match x.get C env with
    | .iface t v => .pan (.iface t v) h
    | _ => .fail
  | _ => .fail

/-- is the operation to be carried out? none: it cannot be told -/
def wanted (env : Env) : Option (Ix × Bool) → Option Bool
  | none => some true
  | some (t, want) => match env.get t with | .bool b => some (b == want) | .tup _ => some false | _ => none

def put (env : Env) (dst : Option Ix) (v : V) : Env := match dst with | some d => env.set d v | none => env

def resultOf (env : Env) (h : H) : ERes → Option V
  | .tmp t => some (env.get t)
  | .cell a agg => match env.get a with
      | .ptr b off ver => (readAt h b off ver).bind (mkVal agg)
      | _ => none

def resultsOf (env : Env) (h : H) (rs : List ERes) : Option V :=
  (rs.mapM (resultOf env h)).map fun | [v] => v | l => .tup l

abbrev Call := V → List V → H → R V

def runOp (C : Ctx) (call : Call) (env : Env) (h : H) : EOp → R V
  | .call f args => call (.func (.func f) [] []) (args.map (·.get C env)) h
  | .callV f args => call (f.get C env) (args.map (·.get C env)) h
  | .invoke r m args => match r.get C env with
    | .iface t v => (match C.meth t m with
      | some f => call (.func (.func f) [] []) (v :: args.map (·.get C env)) h
      | none => .fail)
    | _ => .fail
  | op => simpleOp C env h op

def runOps (C : Ctx) (call : Call) : List EOper → Env → H → R Env
  | [], env, h => .ok env h
  | o :: rest, env, h =>
    match wanted env o.guard with
    | some true => (runOp C call env h o.op).bind fun v h => runOps C call rest (put env o.dst v) h
    | some false => runOps C call rest (put env o.dst (.tup [])) h
    | none => .fail

/-- which memory an operation touches (none: not told) -/
def foot (C : Ctx) (env : Env) : EOp → Option (List Nat)
  | .load _ a | .store _ a _ | .toUnsafe _ a | .ofUnsafe _ a | .sliceArr _ _ a _ _ _ => match a.get C env with | .ptr b _ _ => some [b] | _ => some []
  | .move _ | .pick .. | .alloc .. | .box .. | .build .. | .bslice .. | .nilCheck _ | .bin .. | .eql .. | .un .. | .convInt .. | .same _ | .mkIface .. | .mkFunc .. | .mkMap
  | .mkSlice .. | .sliceStr .. | .sliceSl .. | .faddr .. | .field .. | .iaddrS .. | .iaddrA .. | .idxA .. | .idxS .. | .assertTo .. | .extract .. | .lenArr _ | .lenStr _ | .lenSl _ | .cap _ | .minmax .. => some []
  | .lenMap x => match x.get C env with | .map b => some [b] | _ => some []
  | .look _ _ m _ _ | .mupd _ m _ _ | .ment _ _ m _ | .estore _ m _ _ => match m.get C env with | .map b => some [b] | _ => some []
  | _ => none

/-- what a reading of a map, or the laying of an entry, has to say for itself -/
structure Tag where
  lays : Bool
  b : Nat
  k : V
  z : V

def tagOf (C : Ctx) (env : Env) : EOp → Option Tag
  | .look _ z m k false => match m.get C env with | .map b => some ⟨false, b, k.get C env, z⟩ | _ => none
  | .ment _ z m k => match m.get C env with | .map b => some ⟨true, b, k.get C env, z⟩ | _ => none
  | _ => none

/-- What one operation did: the blocks written, the blocks touched. -/
structure Did where
  wr : List Nat
  foot : Option (List Nat)
  tag : Option Tag
  res : V
  lo : Nat
  hi : Nat

/-- what it touches, if that is known and what it wrote is among it -/
def footOf (C : Ctx) (env : Env) (op : EOp) (wr : List Nat) : Option (List Nat) :=
  match foot C env op with
  | some f => bif wr.all (fun b => f.contains b) then some f else none
  | none => none

/-- a region whose order is open: what each operation wrote, what it touches -/
def runDraw (C : Ctx) (call : Call) : List EOper → Env → H → List Did → R (Env × List Did)
  | [], env, h, acc => .ok (env, acc.reverse) h
  | o :: rest, env, h, acc =>
    match wanted env o.guard with
    | some true => (match runOp C call env { h with mark := h.size, wr := [] } o.op with
      | .ok v h' => runDraw C call rest (put env o.dst v) { h' with mark := h.mark, wr := h'.wr.filter (Nat.blt · h.mark) ++ h.wr } (⟨h'.wr, footOf C env o.op h'.wr, tagOf C env o.op, v, h.size, h'.size⟩ :: acc)
      | _ => .fail)
    | some false => runDraw C call rest (put env o.dst (.tup [])) h (⟨[], some [], none, .tup [], 0, 0⟩ :: acc)
    | none => .fail

def apartOk (w : List Nat) (f : Option (List Nat)) : Bool :=
  match w, f with
  | [], _ => true
  | w, some f => f.all fun b => !w.contains b
  | _, none => false

/-- an entry is laid at the key that was read, to what was read -/
def tagOk (x y : Did) : Bool :=
  match x.tag, y.tag with
  | some t, some u => !t.lays && u.lays && Nat.beq t.b u.b && beqV t.k u.k && eqInt t.z u.z && eqInt x.res x.res
  | _, _ => false

/-- no block is written by both, none that the one made by the other -/
def wrOk (x y : Did) : Bool := y.wr.all fun b => !x.wr.contains b && (Nat.blt b x.lo || Nat.ble x.hi b)

def pairOk (x y : Did) : Bool := wrOk x y && ((apartOk x.wr y.foot && apartOk y.wr x.foot) || tagOk x y)

def drawOk (acc : List Did) (unord : List (Nat × Nat)) : Bool :=
  unord.all fun (i, j) => match acc[i]?, acc[j]? with
    | some x, some y => pairOk x y
    | _, _ => false

def iter (body : Env → H → R (Ex × Env)) : Nat → Env → H → R (Ex × Env)
  | 0, _, _ => .fail
  | n + 1, env, h => (body env h).bind fun (ex, env) h => match ex with
    | .normal => iter body n env h
    | ex => .ok (ex, env) h

def runCode (C : Ctx) (call : Call) (fuel : Nat) : ECode → Env → H → R (Ex × Env)
  | .skip, env, h => .ok (.normal, env) h
  | .region ops, env, h => (runOps C call ops env h).bind fun env h => .ok (.normal, env) h
  | .draw ops unord, env, h => (runDraw C call ops env h []).bind fun (env, acc) h => bif drawOk acc unord then .ok (.normal, env) h else .fail
  | .seq a b, env, h => (runCode C call fuel a env h).bind fun (ex, env) h => match ex with
    | .normal => runCode C call fuel b env h
    | ex => .ok (ex, env) h
  | .cond c a b, env, h => match c.get C env with
    | .bool true => runCode C call fuel a env h
    | .bool false => runCode C call fuel b env h
    | _ => .fail
  | .block id c, env, h => (runCode C call fuel c env h).bind fun (ex, env) h => match ex with
    | .exit i => bif Nat.beq i id then .ok (.normal, env) h else .ok (.exit i, env) h
    | ex => .ok (ex, env) h
  | .loop c, env, h => iter (fun env h => runCode C call fuel c env h) fuel env h
  | .rangeFunc f ps assign body, env, h =>
    match f.get C env with
    | .func (.func fi) a b => (match C.func fi with
      | some _ =>
        (call (.func (.func fi) a b) [.func (.yield h.size) [] []] (h.push (.loop ps env assign body 0 none))).bind fun _ h1 =>
          (match h1.get h.size with
          | some (.loop ps1 env1 assign1 body1 st pending) =>
            bif Nat.beq st 1 then .fail else
            let h2 := h1.put h.size (.loop ps1 env1 assign1 body1 3 pending)
            (match pending with
            | none => .ok (.normal, env) h2
            | some .ret => .ok (.ret, env) h2
            | some (.exit i) => .ok (.exit i, env) h2
            | _ => .fail)
          | _ => .fail)
      | none => .fail)
    | _ => .fail
  | .exit i, env, h => .ok (.exit i, env) h
  | .ret, env, h => .ok (.ret, env) h
  | .bad, _, _ => .fail

def prefixE : List Nat → List Nat → Bool
  | [], _ => true
  | _ :: _, [] => false
  | a :: l, b :: m => Nat.beq a b && prefixE l m

/-- the first place of a text in one -/
def indexE (sub : List Nat) : List Nat → Option Nat
  | [] => if sub.isEmpty then some 0 else none
  | b :: l => bif prefixE sub (b :: l) then some 0 else match indexE sub l with | some i => some (i + 1) | none => none

def special (call : Call) (s : Sp) (args : List V) (h : H) : R V :=
  match s, args with
  | .noEscape, [x] => .ok x h
  | .indexByteString, [.str s, x] => (match asByte x with
    | some c => .ok (.int .i64 (match s.findIdx? (fun n => Nat.beq n c) with | some i => i | none => -1)) h
    | none => .fail)
  | .index _, [.str s, .str sub] => bif Nat.blt s.length 4294967281 then .ok (.int .i64 (match indexE sub s with | some i => i | none => -1)) h else .fail
  | .try_, [_, g] => (match call g [] h with
    | .ok _ h => .ok (.bool true) h
    | _ => .fail)
  | _, _ => .fail

def body (C : Ctx) (call : Call) (fuel : Nat) (fn : EFunc) (args : List V) (h : H) : R V :=
  bif !(Nat.ble args.length fn.ntmps) then .fail else
  (runCode C call fuel fn.body (Env.args .none 0 args) h).bind fun (ex, env) h => match ex with
    | .exit _ => .fail
    | _ => o2r (resultsOf env h fn.results) h

/-- what a function that is run apart comes to -/
def apartValue (C : Ctx) (call : Call) (fuel : Nat) (f : Nat) (fn : EFunc) (args : List V) : Option V :=
  match C.memo f args with
  | some v => some v
  | none => match body C call fuel fn args H.new with
    | .ok v h' => (resolve 1000 h' v).map (·.1)
    | _ => none

def runApart (C : Ctx) (call : Call) (fuel : Nat) (f : Nat) (fn : EFunc) (args : List V) (h : H) : R V :=
  match resolves 1000 h args with
  | some (args, bs) =>
    (match apartValue C call fuel f fn args with
    | some v => bif flat v then .ok v h else .ok v (freezeB h bs)
    | none => .fail)
  | none => .fail

def roundE (C : Ctx) (call : Call) (fuel l : Nat) (args : List V) (h : H) : R V :=
  match h.get l with
  | some (.loop ps env assign body _ _) =>
    bif !(Nat.beq args.length ps.length) then .fail else
    (match runCode C call fuel assign ((ps.zip args).foldl (fun e (t, a) => e.set t a) env) h with
    | .ok (.normal, env1) h1 => (match h1.get l with
      | some (.loop ps1 e1 as1 bo1 0 pd1) =>
        (match runCode C call fuel body env1 (h1.put l (.loop ps1 e1 as1 bo1 1 pd1)) with
        | .ok (ex, _) h2 => (match h2.get l with
          | some (.loop ps2 e2 as2 bo2 _ _) =>
            (match ex with
            | .normal => .ok (.bool true) (h2.put l (.loop ps2 e2 as2 bo2 0 none))
            | .ret => .ok (.bool false) (h2.put l (.loop ps2 e2 as2 bo2 2 (some .ret)))
            | .exit i => .ok (.bool false) (h2.put l (.loop ps2 e2 as2 bo2 2 (some (.exit i)))))
          | _ => .fail)
        | _ => .fail)
      | _ => .fail)
    | _ => .fail)
  | _ => .fail

def callN (C : Ctx) : Nat → Call
  | 0 => fun _ _ _ => .fail
  | n + 1 => fun g args h =>
    match g with
    | .func (.func f) a b =>
      let args := a ++ args ++ b
      (match C.spec f with
      | some s => special (callN C n) s args h
      | none => match C.func f with
        | some fn => bif C.apart f then runApart C (callN C n) n f fn args h else body C (callN C n) n fn args h
        | none => .fail)
    | .func (.yield l) a _ => roundE C (callN C n) n l (a ++ args) h
    | _ => .fail

end Go.E
