/- How the plain machine's memory lies in the model's. -/
import Derived.Test.YtmhhajebgolmlaaGreatDoorDef
import Derived.Laws.IdiomCopy
import Derived.Laws.Cells
import Derived.Control
namespace Go.E

/-- Where the plain run's blocks lie (by their number and length), and which cells stay as they are. -/
structure Rn where
  L : Nat → Nat → Option Nat
  S : Nat → Nat → Prop

def bs (s : ByteArray) : List Nat := s.data.toList.map (·.toNat)

mutual
inductive KRel : Value → V → Prop
  | bool (b : Bool) : KRel (.bool b) (.bool b)
  | int (k : IntKind) (n : Int) : KRel (.int k n) (.int k n)
  | str (s : ByteArray) : KRel (.string s) (.str (bs s))
  | agg {cs : Array Value} {cs' : List V} : KsRel cs.toList cs' → KRel (.agg cs) (.agg cs')
inductive KsRel : List Value → List V → Prop
  | nil : KsRel [] []
  | cons {v : Value} {t : V} {vs : List Value} {ts : List V} : KRel v t → KsRel vs ts → KsRel (v :: vs) (t :: ts)
end

inductive FRel (ρ : Rn) : Fn → Fn → Prop
  | func (f : Nat) : FRel ρ (.func f) (.func f)
  | yield {l l' : Nat} : ρ.L l' 0 = some l → FRel ρ (.yield l) (.yield l')

mutual
inductive VRel (ρ : Rn) (w : World) : Value → V → Prop
  | junk (x : Value) : VRel ρ w x .junk
  | bool (b : Bool) : VRel ρ w (.bool b) (.bool b)
  | int (k : IntKind) (n : Int) : VRel ρ w (.int k n) (.int k n)
  | str (s : ByteArray) : VRel ρ w (.string s) (.str (bs s))
  | pnil : VRel ρ w (.pointer none) .pnil
  | ptr {b off ver r : Nat} : ρ.L b ver = some r → VRel ρ w (.pointer (some ⟨r, off, none⟩)) (.ptr b off ver)
  | pimm {r o : Nat} {cs : List V} : CRel ρ w r o cs → VRel ρ w (.pointer (some ⟨r, o, none⟩)) (.pimm cs)
  | snil : VRel ρ w (.slice none 0 0) .snil
  | sl {b off len cap sz ver c r : Nat} {ex : Bool} {a : Addr} : ρ.L b ver = some r → (c = 0 ∨ a = ⟨r, off, none⟩) → (ex = true → c = cap) → cap ≤ c → len ≤ cap →
      (∃ cs e f, w.heap[r]? = some (.cells cs e f) ∧ off + c * sz ≤ cs.size) → VRel ρ w (.slice (some a) len c) (.sl b off len cap sz ver ex)
  | simm {len c : Nat} {ex : Bool} {a : Addr} {cs : List V} : (cs ≠ [] → a.spot = none) → CRel ρ w a.block a.off cs → (ex = true → c = len) → len ≤ c → VRel ρ w (.slice (some a) len c) (.simm cs len ex)
  | mnil : VRel ρ w (.map none) .mnil
  | map {b r : Nat} : ρ.L b 0 = some r → VRel ρ w (.map (some r)) (.map b)
  | stamp {b r : Nat} {n : Int} {k : V} : ρ.L b 0 = some r → (∃ es c, w.heap[r]? = some (.map es c) ∧ ∃ e ∈ es.toList, (e.born : Int) = n ∧ KRel e.key k) → VRel ρ w (.int .i64 n) (.stamp b k)
  | func {f f' : Fn} {a b : Array Value} {a' b' : List V} : FRel ρ f f' → VsRel ρ w a.toList a' → VsRel ρ w b.toList b' → VRel ρ w (.func f a b) (.func f' a' b')
  | nilFunc : VRel ρ w .nilFunc .nilFunc
  | iface {t : TypeId} {v : Value} {v' : V} : VRel ρ w v v' → VRel ρ w (.iface t v) (.iface t v')
  | nilIface : VRel ρ w .nilIface .nilIface
  | agg {cs : Array Value} {cs' : List V} : VsRel ρ w cs.toList cs' → VRel ρ w (.agg cs) (.agg cs')
  | tup {cs : Array Value} {cs' : List V} : VsRel ρ w cs.toList cs' → VRel ρ w (.tuple cs) (.tup cs')
inductive VsRel (ρ : Rn) (w : World) : List Value → List V → Prop
  | nil : VsRel ρ w [] []
  | cons {v : Value} {t : V} {vs : List Value} {ts : List V} : VRel ρ w v t → VsRel ρ w vs ts → VsRel ρ w (v :: vs) (t :: ts)
inductive CRel (ρ : Rn) (w : World) : Nat → Nat → List V → Prop
  | nil (r o : Nat) : CRel ρ w r o []
  | cons {r o : Nat} {v : Value} {t : V} {ts : List V} : ρ.S r o → w.cell? ⟨r, o, none⟩ = some v → VRel ρ w v t → CRel ρ w r (o + 1) ts → CRel ρ w r o (t :: ts)
end

/-- What a later world keeps of an earlier one, and a later place of an earlier. -/
structure Keeps (ρ : Rn) (w : World) (ρ' : Rn) (w' : World) : Prop where
  L : ∀ {b v r : Nat}, ρ.L b v = some r → ρ'.L b v = some r
  S : ∀ {r o : Nat}, ρ.S r o → ρ'.S r o
  cell : ∀ {r o : Nat} {x : Value}, ρ.S r o → w.cell? ⟨r, o, none⟩ = some x → w'.cell? ⟨r, o, none⟩ = some x
  shape : ∀ {r : Nat} {c : Array Value} {e : TypeId} {f : Nat × Nat}, w.heap[r]? = some (.cells c e f) → ∃ c' f', w'.heap[r]? = some (.cells c' e f') ∧ c'.size = c.size
  maps : ∀ {r : Nat} {es : Array MapEntry} {c : Nat}, w.heap[r]? = some (.map es c) → ∃ es' c', w'.heap[r]? = some (.map es' c') ∧
    ∀ e ∈ es.toList, ∃ e' ∈ es'.toList, e'.born = e.born ∧ ∀ k, KRel e.key k → KRel e'.key k

theorem Keeps.refl (ρ : Rn) (w : World) : Keeps ρ w ρ w :=
  ⟨fun h => h, fun h => h, fun _ h => h, fun h => ⟨_, _, h, rfl⟩, fun h => ⟨_, _, h, fun e he => ⟨e, he, rfl, fun _ hk => hk⟩⟩⟩

theorem Keeps.trans {ρ ρ' ρ'' : Rn} {w w' w'' : World} (h : Keeps ρ w ρ' w') (k : Keeps ρ' w' ρ'' w'') : Keeps ρ w ρ'' w'' where
  L := fun x => k.L (h.L x)
  S := fun x => k.S (h.S x)
  cell := fun s x => k.cell (h.S s) (h.cell s x)
  shape := fun x => by
    obtain ⟨c', f', h1, e1⟩ := h.shape x
    obtain ⟨c'', f'', h2, e2⟩ := k.shape h1
    exact ⟨c'', f'', h2, e2.trans e1⟩
  maps := fun x => by
    obtain ⟨es', c', h1, g1⟩ := h.maps x
    obtain ⟨es'', c'', h2, g2⟩ := k.maps h1
    refine ⟨es'', c'', h2, fun e he => ?_⟩
    obtain ⟨e', he', hb', hk'⟩ := g1 e he
    obtain ⟨e'', he'', hb'', hk''⟩ := g2 e' he'
    exact ⟨e'', he'', hb''.trans hb', fun q hq => hk'' q (hk' q hq)⟩

section mono
variable {ρ ρ' : Rn} {w w' : World}
theorem FRel.keep {f f' : Fn} (K : Keeps ρ w ρ' w') (h : FRel ρ f f') : FRel ρ' f f' := by
  cases h with
  | func f => exact .func f
  | yield h => exact .yield (K.L h)
mutual
theorem VRel.keep {v : Value} {t : V} (K : Keeps ρ w ρ' w') (h : VRel ρ w v t) : VRel ρ' w' v t := by
  cases h with
  | junk => exact .junk _
  | bool b => exact .bool b
  | int k n => exact .int k n
  | str s => exact .str s
  | pnil => exact .pnil
  | ptr h => exact .ptr (K.L h)
  | pimm h => exact .pimm (CRel.keep K h)
  | snil => exact .snil
  | sl h1 h2 h3 h4 h5 h6 =>
    refine .sl (K.L h1) h2 h3 h4 h5 ?_
    obtain ⟨cs, e, f, hh, hle⟩ := h6
    obtain ⟨c', f', hh', hs⟩ := K.shape hh
    exact ⟨c', e, f', hh', hs ▸ hle⟩
  | simm h1 h2 h3 h4 => exact .simm h1 (CRel.keep K h2) h3 h4
  | mnil => exact .mnil
  | map h => exact .map (K.L h)
  | stamp h1 h2 =>
    refine .stamp (K.L h1) ?_
    obtain ⟨es, c, hh, e, he, hb, hk⟩ := h2
    obtain ⟨es', c', hh', g⟩ := K.maps hh
    obtain ⟨e', he', hb', hk'⟩ := g e he
    exact ⟨es', c', hh', e', he', by rw [hb']; exact hb, hk' _ hk⟩
  | func h1 h2 h3 => exact .func (h1.keep K) (VsRel.keep K h2) (VsRel.keep K h3)
  | nilFunc => exact .nilFunc
  | iface h => exact .iface (VRel.keep K h)
  | nilIface => exact .nilIface
  | agg h => exact .agg (VsRel.keep K h)
  | tup h => exact .tup (VsRel.keep K h)
theorem VsRel.keep {vs : List Value} {ts : List V} (K : Keeps ρ w ρ' w') (h : VsRel ρ w vs ts) : VsRel ρ' w' vs ts := by
  cases h with
  | nil => exact .nil
  | cons h1 h2 => exact .cons (VRel.keep K h1) (VsRel.keep K h2)
theorem CRel.keep {r o : Nat} {ts : List V} (K : Keeps ρ w ρ' w') (h : CRel ρ w r o ts) : CRel ρ' w' r o ts := by
  cases h with
  | nil => exact .nil _ _
  | cons h1 h2 h3 h4 => exact .cons (K.S h1) (K.cell h1 h2) (VRel.keep K h3) (CRel.keep K h4)
end
end mono

end Go.E

namespace Go.E

/-! ## The frame's temporaries -/
theorem N8.get_set {α : Type} (n : N8 α) (d e : D) (v : α) : (n.set d v).get e = if d = e then v else n.get e := by
  cases d <;> cases e <;> rfl

theorem N8.get_all {α : Type} (v : α) (d : D) : (N8.all v).get d = v := by cases d <;> rfl

theorem Env.get_set (e : Env) (i j : Ix) (v : V) : (e.set i v).get j = if i = j then v else e.get j := by
  obtain ⟨a, b, c⟩ := i
  obtain ⟨a', b', c'⟩ := j
  simp only [Env.get, Env.set, N8.get_set, Ix.mk.injEq]
  by_cases h1 : a = a'
  · subst h1
    by_cases h2 : b = b'
    · subst h2
      by_cases h3 : c = c' <;> simp [N8.get_set, h3]
    · simp [N8.get_set, h2]
  · simp [h1]

theorem Env.get_none (i : Ix) : Env.none.get i = .tup [] := by
  simp [Env.get, Env.none, N8.get_all]

def D.nat : D → Nat
  | .d0 => 0 | .d1 => 1 | .d2 => 2 | .d3 => 3 | .d4 => 4 | .d5 => 5 | .d6 => 6 | .d7 => 7

theorem D.nat_of {n : Nat} (h : n < 8) : (D.of n).nat = n := by
  match n, h with
  | 0, _ | 1, _ | 2, _ | 3, _ | 4, _ | 5, _ | 6, _ | 7, _ => rfl

theorem ix_inj {m n : Nat} (hm : m < 512) (hn : n < 512) (h : ix m = ix n) : m = n := by
  simp only [ix, Ix.mk.injEq] at h
  obtain ⟨h1, h2, h3⟩ := h
  have g1 := congrArg D.nat h1
  have g2 := congrArg D.nat h2
  have g3 := congrArg D.nat h3
  rw [D.nat_of (by omega), D.nat_of (by omega)] at g1 g2 g3
  omega

def ERel (ρ : Rn) (w : World) (tmps : Array Value) (env : Env) : Prop :=
  tmps.size ≤ 512 ∧ ∀ t, t < 512 → VRel ρ w (tmps.getD t undef) (env.get (ix t))

theorem ERel.keep {ρ ρ' : Rn} {w w' : World} (K : Keeps ρ w ρ' w') {tmps : Array Value} {env : Env} (h : ERel ρ w tmps env) : ERel ρ' w' tmps env :=
  ⟨h.1, fun t ht => (h.2 t ht).keep K⟩

theorem undef_rel (ρ : Rn) (w : World) : VRel ρ w undef (.tup []) := .tup (cs := #[]) .nil

theorem ERel.put {ρ : Rn} {w : World} {tmps : Array Value} {env : Env} (h : ERel ρ w tmps env) {d : Nat} (hd : d < tmps.size) {v : Value} {t : V} (hv : VRel ρ w v t) :
    ERel ρ w (tmps.setIfInBounds d v) (env.set (ix d) t) := by
  refine ⟨by simpa using h.1, fun j hj => ?_⟩
  rw [Env.get_set]
  by_cases e : d = j
  · subst e
    simp [Array.getD, hd, hv]
  · have hne : ix d ≠ ix j := fun hh => e (ix_inj (by have := h.1; omega) hj hh)
    rw [if_neg hne]
    have := h.2 j hj
    simpa [Array.getD_eq_getD_getElem?, Array.getElem?_setIfInBounds, e] using this

theorem ERel.putUndef {ρ : Rn} {w : World} {tmps : Array Value} {env : Env} (h : ERel ρ w tmps env) (d : Nat) (hd : d < tmps.size ∨ d ≥ 512) :
    d < 512 → ERel ρ w (tmps.setIfInBounds d undef) (env.set (ix d) (.tup [])) := by
  intro h5
  rcases hd with hd | hd
  · exact h.put hd (undef_rel _ _)
  · omega

/-! ## Constants and operands -/
theorem ofCell_rel (ρ : Rn) (w : World) (v : Value) : VRel ρ w v (ofCell v) := by
  unfold ofCell
  split
  · exact .bool _
  · exact .int _ _
  · exact .str _
  · exact .pnil
  · exact .snil
  · exact .mnil
  · exact .nilFunc
  · exact .nilIface
  · rename_i f a b
    split
    · rename_i h
      simp only [Bool.and_eq_true, Array.isEmpty_iff] at h
      obtain ⟨rfl, rfl⟩ := h
      exact .func (.func _) .nil .nil
    · exact .junk _
  · exact .junk _

theorem ofCells_rel (ρ : Rn) (w : World) : ∀ l : List Value, VsRel ρ w l (l.map ofCell)
  | [] => .nil
  | v :: l => .cons (ofCell_rel ρ w v) (ofCells_rel ρ w l)

theorem ofValue_rel (ρ : Rn) (w : World) (v : Value) : VRel ρ w v (ofValue v) := by
  unfold ofValue
  split
  · exact .agg (ofCells_rel ρ w _)
  · split
    · rename_i vs h
      simp only [Array.isEmpty_iff] at h
      subst h
      exact undef_rel ρ w
    · exact .junk _
  · exact ofCell_rel ρ w v

/-- What is known of the program's variables: their cells, as the plain run has them. -/
def Globs (ρ : Rn) (w : World) (C : Ctx) : Prop := ∀ g, CRel ρ w g 0 (C.glob g)

theorem Globs.keep {ρ ρ' : Rn} {w w' : World} {C : Ctx} (K : Keeps ρ w ρ' w') (h : Globs ρ w C) : Globs ρ' w' C := fun g => (h g).keep K

theorem opd_rel {ρ : Rn} {w : World} {C : Ctx} {a : Act} {env : Env} (he : ERel ρ w a.tmps env) (hg : Globs ρ w C) (x : Operand) : VRel ρ w (a.eval x) ((opd x).get C env) := by
  cases x with
  | tmp t =>
    simp only [opd, Act.eval]
    split
    · rename_i h
      exact he.2 t h
    · exact .junk _
  | const v => exact ofValue_rel ρ w v
  | global g => exact .pimm (hg g)
  | func f => exact .func (.func f) .nil .nil

theorem opds_rel {ρ : Rn} {w : World} {C : Ctx} {a : Act} {env : Env} (he : ERel ρ w a.tmps env) (hg : Globs ρ w C) : ∀ l : List Operand, VsRel ρ w (l.map a.eval) ((l.map opd).map (·.get C env))
  | [] => .nil
  | x :: l => .cons (opd_rel he hg x) (opds_rel he hg l)

/-! ## Lists of related values -/
theorem VsRel.length {ρ : Rn} {w : World} : ∀ {vs : List Value} {ts : List V}, VsRel ρ w vs ts → vs.length = ts.length
  | _, _, .nil => rfl
  | _, _, .cons _ h => by simp [VsRel.length h]

theorem VsRel.get {ρ : Rn} {w : World} : ∀ {vs : List Value} {ts : List V}, VsRel ρ w vs ts → ∀ (i : Nat) (t : V), ts[i]? = some t → ∃ v, vs[i]? = some v ∧ VRel ρ w v t
  | _, _, .nil, i, t, h => by simp at h
  | _, _, .cons h1 h2, 0, t, h => by simp at h; subst h; exact ⟨_, rfl, h1⟩
  | _, _, .cons h1 h2, i + 1, t, h => by simpa using VsRel.get h2 i t (by simpa using h)

theorem VsRel.append {ρ : Rn} {w : World} : ∀ {vs : List Value} {ts : List V} {vs' : List Value} {ts' : List V}, VsRel ρ w vs ts → VsRel ρ w vs' ts' → VsRel ρ w (vs ++ vs') (ts ++ ts')
  | _, _, _, _, .nil, h => h
  | _, _, _, _, .cons h1 h2, h => .cons h1 (VsRel.append h2 h)

theorem VsRel.drop {ρ : Rn} {w : World} : ∀ (n : Nat) {vs : List Value} {ts : List V}, VsRel ρ w vs ts → VsRel ρ w (vs.drop n) (ts.drop n)
  | 0, _, _, h => by simpa using h
  | n + 1, _, _, .nil => by simp; exact .nil
  | n + 1, _, _, .cons _ h => by simpa using VsRel.drop n h

theorem VsRel.take {ρ : Rn} {w : World} : ∀ (n : Nat) {vs : List Value} {ts : List V}, VsRel ρ w vs ts → VsRel ρ w (vs.take n) (ts.take n)
  | 0, _, _, _ => by simp; exact .nil
  | n + 1, _, _, .nil => by simp; exact .nil
  | n + 1, _, _, .cons h1 h => by simpa using .cons h1 (VsRel.take n h)

theorem VsRel.set {ρ : Rn} {w : World} : ∀ {vs : List Value} {ts : List V} (i : Nat) {v : Value} {t : V}, VsRel ρ w vs ts → VRel ρ w v t → VsRel ρ w (vs.set i v) (ts.set i t)
  | _, _, i, _, _, .nil, _ => by simp; exact .nil
  | _, _, 0, _, _, .cons _ h, hv => .cons hv h
  | _, _, i + 1, _, _, .cons h1 h, hv => .cons h1 (VsRel.set i h hv)

theorem VsRel.replicate {ρ : Rn} {w : World} {v : Value} {t : V} (h : VRel ρ w v t) : ∀ n, VsRel ρ w (List.replicate n v) (List.replicate n t)
  | 0 => .nil
  | n + 1 => .cons h (VsRel.replicate h n)

theorem cut_eq : ∀ (n : Nat) (l r : List V), cut n l = some r → r = l.take n ∧ n ≤ l.length
  | 0, l, r, h => by simp [cut] at h; subst h; simp
  | n + 1, [], r, h => by simp [cut] at h
  | n + 1, v :: l, r, h => by
    simp only [cut, Option.map_eq_some_iff] at h
    obtain ⟨x, hx, rfl⟩ := h
    obtain ⟨h1, h2⟩ := cut_eq n l x hx
    simp [h1, h2]

theorem CRel.drop {ρ : Rn} {w : World} {r : Nat} : ∀ (n : Nat) {o : Nat} {ts : List V}, CRel ρ w r o ts → CRel ρ w r (o + n) (ts.drop n)
  | 0, _, _, h => by simpa using h
  | n + 1, o, _, .nil _ _ => by simp; exact .nil _ _
  | n + 1, o, _, .cons _ _ _ h => by
    have := CRel.drop n h
    simpa [Nat.add_assoc, Nat.add_comm 1 n] using this

theorem CRel.take {ρ : Rn} {w : World} {r : Nat} : ∀ (n : Nat) {o : Nat} {ts : List V}, CRel ρ w r o ts → CRel ρ w r o (ts.take n)
  | 0, _, _, _ => by simp; exact .nil _ _
  | n + 1, o, _, .nil _ _ => by simp; exact .nil _ _
  | n + 1, o, _, .cons h1 h2 h3 h => by simpa using .cons h1 h2 h3 (CRel.take n h)

/-- stable cells, read -/
theorem CRel.read {ρ : Rn} {w : World} {r : Nat} : ∀ {o : Nat} {ts : List V}, CRel ρ w r o ts → ∃ vs : List Value, VsRel ρ w vs ts ∧ ∀ j v, vs[j]? = some v → w.cell? ⟨r, o + j, none⟩ = some v
  | _, _, .nil _ _ => ⟨[], .nil, by simp⟩
  | o, _, .cons (v := v) h1 h2 h3 h => by
    obtain ⟨vs, hvs, hc⟩ := CRel.read h
    refine ⟨v :: vs, .cons h3 hvs, fun j x hx => ?_⟩
    cases j with
    | zero => simp at hx; subst hx; simpa using h2
    | succ j =>
      have := hc j x (by simpa using hx)
      rwa [show o + (j + 1) = o + 1 + j by omega]


/-! ## The plain heap -/
theorem nbeq (a b : Nat) : Nat.beq a b = decide (a = b) := by rw [Bool.eq_iff_iff]; simp [Nat.beq_eq]
theorem nble (a b : Nat) : Nat.ble a b = decide (a ≤ b) := by rw [Bool.eq_iff_iff]; simp [Nat.ble_eq]
theorem nblt (a b : Nat) : Nat.blt a b = decide (a < b) := by rw [Bool.eq_iff_iff]; simp [Nat.blt_eq]

theorem T.get_n (l : T) (v : Option Blk) (r : T) (k : Nat) : (T.n l v r).get k = if k = 0 then v else if k % 2 = 1 then l.get (k / 2) else r.get (k / 2 - 1) := by
  simp only [T.get]
  by_cases h0 : k = 0
  · subst h0; rfl
  · rw [if_neg h0, show Nat.beq k 0 = false from by simp [nbeq, h0]]
    by_cases h1 : k % 2 = 1
    · rw [if_pos h1, h1]; rfl
    · rw [if_neg h1, show Nat.beq (k % 2) 1 = false from by simp [nbeq, h1]]; rfl

theorem T.get_set : ∀ (f : Nat) (t : T) (k k' : Nat) (b : Blk), k < f → (T.set f t k b).get k' = if k' = k then some b else t.get k'
  | 0, _, _, _, _, h => by omega
  | f + 1, t, k, k', b, h => by
    have main : ∀ l v r, (∀ j, t.get j = (T.n l v r).get j) → (T.set (f + 1) t k b = if k = 0 then .n l (some b) r else if k % 2 = 1 then .n (T.set f l (k / 2) b) v r else .n l v (T.set f r (k / 2 - 1) b)) →
        (T.set (f + 1) t k b).get k' = if k' = k then some b else t.get k' := by
      intro l v r ht hs
      rw [hs, ht]
      by_cases h0 : k = 0
      · rw [if_pos h0, T.get_n, T.get_n]
        by_cases hk : k' = 0
        · simp [hk, h0]
        · simp [hk, h0]
      · rw [if_neg h0]
        by_cases h1 : k % 2 = 1
        · rw [if_pos h1, T.get_n, T.get_n, T.get_set f l (k / 2) (k' / 2) b (by omega)]
          by_cases hk : k' = 0
          · simp [hk]; omega
          · by_cases hk1 : k' % 2 = 1
            · simp only [hk, if_false, hk1, if_true]
              by_cases e : k' = k
              · simp [e]
              · have : k' / 2 ≠ k / 2 := by omega
                simp [e, this]
            · simp only [hk, if_false, hk1]
              rw [if_neg (by rintro rfl; exact hk1 h1)]
        · rw [if_neg h1, T.get_n, T.get_n, T.get_set f r (k / 2 - 1) (k' / 2 - 1) b (by omega)]
          by_cases hk : k' = 0
          · simp [hk]; omega
          · by_cases hk1 : k' % 2 = 1
            · simp only [hk, if_false, hk1, if_true]
              rw [if_neg (by rintro rfl; exact h1 hk1)]
            · simp only [hk, if_false, hk1]
              by_cases e : k' = k
              · simp [e]
              · have : k' / 2 - 1 ≠ k / 2 - 1 := by omega
                simp [e, this]
    cases t with
    | e => refine main .e none .e (fun j => by simp only [T.get_n]; simp [T.get]) ?_; simp only [T.set, nbeq, Bool.cond_decide]
    | n l v r => refine main l v r (fun j => rfl) ?_; simp only [T.set, nbeq, Bool.cond_decide]

theorem H.get_put (h : H) (b b' : Nat) (x : Blk) : (h.put b x).get b' = if b' = b then some x else h.get b' := T.get_set (b + 1) h.mem b b' x (by omega)
theorem H.get_push (h : H) (b' : Nat) (x : Blk) : (h.push x).get b' = if b' = h.size then some x else h.get b' := T.get_set (h.size + 1) h.mem h.size b' x (by omega)
@[simp] theorem H.size_put (h : H) (b : Nat) (x : Blk) : (h.put b x).size = h.size := rfl
@[simp] theorem H.size_push (h : H) (x : Blk) : (h.push x).size = h.size + 1 := rfl
@[simp] theorem H.mark_put (h : H) (b : Nat) (x : Blk) : (h.put b x).mark = h.mark := rfl
@[simp] theorem H.mark_push (h : H) (x : Blk) : (h.push x).mark = h.mark := rfl
@[simp] theorem H.wr_push (h : H) (x : Blk) : (h.push x).wr = h.wr := rfl
theorem H.wr_put (h : H) (b : Nat) (x : Blk) : (h.put b x).wr = if b < h.mark then b :: h.wr else h.wr := by simp [H.put, nblt]

/-! ## The two memories -/
def ver : Blk → Nat
  | .cells cs _ _ _ => cs.length
  | _ => 0

inductive All2 {α β : Type} (R : α → β → Prop) : List α → List β → Prop
  | nil : All2 R [] []
  | cons {a : α} {b : β} {l : List α} {m : List β} : R a b → All2 R l m → All2 R (a :: l) (b :: m)

theorem All2.imp {α β : Type} {R R' : α → β → Prop} (hi : ∀ a b, R a b → R' a b) : ∀ {l : List α} {m : List β}, All2 R l m → All2 R' l m
  | _, _, .nil => .nil
  | _, _, .cons h1 h2 => .cons (hi _ _ h1) (All2.imp hi h2)

/-- a map: its entries -/
structure MRel (ρ : Rn) (w : World) (es : List (V × V)) (es' : Array MapEntry) (clock : Nat) : Prop where
  rows : All2 (fun (e : MapEntry) p => KRel e.key p.1 ∧ VRel ρ w e.val p.2) es'.toList es
  keys : (es.map (·.1)).Nodup
  born : (es'.toList.map (·.born)).Nodup ∧ ∀ e ∈ es'.toList, e.born < clock

structure LRel (P : Program) (ρ : Rn) (w : World) (lp : Loop) (ps : List Ix) (env : Env) (assign body : ECode) (st : Nat) (pending : Option ECode) : Prop where
  params : lp.params.toList.map ix = ps
  small : lp.params.all (· < lp.tmps.size) = true
  le : lp.tmps.size ≤ 511
  env : ERel ρ w lp.tmps env
  assign : compCode P lp.tmps.size true lp.assign = assign
  body : compCode P lp.tmps.size true lp.body = body
  state : lp.state = (match st with | 0 => .ready | 1 => .busy | 2 => .done | _ => .exhausted)
  pending : lp.pending = (match pending with | some .ret => some .ret | some (.exit i) => some (.exit i) | _ => none)

def BRel (P : Program) (ρ : Rn) (w : World) (r : Nat) : Blk → Prop
  | .cells cs e g frz => ∃ c f, w.heap[r]? = some (.cells c e f) ∧ cs.length ≤ c.size ∧ (g = 0 → c.size = cs.length) ∧ VsRel ρ w (c.toList.take cs.length) cs ∧ (f.1 = f.2 ∨ f.2 ≤ frz ∨ g = 2 ∧ c.size ≤ f.1)
  | .map es => ∃ es' clock, w.heap[r]? = some (.map es' clock) ∧ MRel ρ w es es' clock
  | .loop ps env assign body st pending => ∃ lp, w.heap[r]? = some (.loop lp) ∧ LRel P ρ w lp ps env assign body st pending

/-- The plain heap and the world: X says of which blocks the contents are held against the world. -/
structure Inv (P : Program) (X : Nat → Prop) (ρ : Rn) (h : H) (w : World) : Prop where
  dom : ∀ {b : Nat} {blk : Blk}, h.get b = some blk → b < h.size
  fresh : ∀ {b v : Nat}, h.size ≤ b → ρ.L b v = none
  inj : ∀ {b v b' v' r : Nat}, ρ.L b v = some r → ρ.L b' v' = some r → b = b'
  lt : ∀ {b v r : Nat}, ρ.L b v = some r → r < w.heap.size
  slt : ∀ {r o : Nat}, ρ.S r o → r < w.heap.size
  mark : h.mark ≤ h.size
  stab : ∀ {b : Nat} {blk : Blk} {r o : Nat}, X b → h.get b = some blk → ρ.L b (ver blk) = some r → ρ.S r o → ∃ cs e g frz, blk = .cells cs e g frz ∧ o < frz
  vers : ∀ {b : Nat} {blk : Blk} {v r : Nat}, X b → h.get b = some blk → ρ.L b v = some r → v ≤ ver blk
  blk : ∀ {b : Nat} {blk : Blk} {r : Nat}, X b → h.get b = some blk → ρ.L b (ver blk) = some r → BRel P ρ w r blk

/-- What one piece of a run does to both. -/
structure Post (ρ : Rn) (h : H) (w : World) (ρ' : Rn) (h' : H) (w' : World) : Prop where
  keeps : Keeps ρ w ρ' w'
  grows : w.heap.size ≤ w'.heap.size
  size : h.size ≤ h'.size
  mark : h'.mark = h.mark
  told : ∀ b ∈ h.wr, b ∈ h'.wr
  /-- a new place: of a new block, or of one that has a place -/
  newL : ∀ {b v r : Nat}, ρ'.L b v = some r → ρ.L b v = none → (h.size ≤ b ∧ b < h'.size ∧ w.heap.size ≤ r) ∨ ((b ∈ h'.wr ∨ h.mark ≤ b) ∧ ∃ v₀ r₀, ρ.L b v₀ = some r₀ ∧ (w.heap.size ≤ r ∨ r = r₀))
  newS : ∀ {r o : Nat}, ρ'.S r o → ρ.S r o ∨ w.heap.size ≤ r ∨ ∃ b v, ρ.L b v = some r ∧ (b ∈ h'.wr ∨ h.mark ≤ b)
  /-- what is not this run's, or was not told to be written, stays -/
  rest : ∀ {r : Nat}, r < w.heap.size → (∀ b v, ρ.L b v = some r → b < h.mark ∧ b ∉ h'.wr) → w'.heap[r]? = w.heap[r]?
  same : ∀ {b : Nat}, b < h.mark → b ∉ h'.wr → h'.get b = h.get b
  world : w'.os = w.os ∧ w'.output = w.output ∧ w'.tape = w.tape

theorem Post.refl (ρ : Rn) (h : H) (w : World) : Post ρ h w ρ h w where
  keeps := Keeps.refl ρ w
  grows := Nat.le_refl _
  size := Nat.le_refl _
  mark := rfl
  told := fun _ hb => hb
  newL := fun h1 h2 => by rw [h1] at h2; cases h2
  newS := fun h => .inl h
  rest := fun _ _ => rfl
  same := fun _ _ => rfl
  world := ⟨rfl, rfl, rfl⟩

theorem Post.trans {ρ ρ' ρ'' : Rn} {h h' h'' : H} {w w' w'' : World} (p : Post ρ h w ρ' h' w') (q : Post ρ' h' w' ρ'' h'' w'') : Post ρ h w ρ'' h'' w'' where
  keeps := p.keeps.trans q.keeps
  grows := Nat.le_trans p.grows q.grows
  size := Nat.le_trans p.size q.size
  mark := q.mark.trans p.mark
  told := fun b hb => q.told b (p.told b hb)
  newL := by
    intro b v r h1 h2
    cases h3 : ρ'.L b v with
    | some r' =>
      have := q.keeps.L h3
      rw [h1] at this
      cases this
      rcases p.newL h3 h2 with ⟨a, b', c⟩ | ⟨hm, h4⟩
      · exact .inl ⟨a, Nat.lt_of_lt_of_le b' q.size, c⟩
      · exact .inr ⟨hm.imp (q.told b) id, h4⟩
    | none =>
      rcases q.newL h1 h3 with ⟨a, b', c⟩ | ⟨hm, v₀, r₀, h4, h5⟩
      · exact .inl ⟨Nat.le_trans p.size a, b', Nat.le_trans p.grows c⟩
      · have hm : b ∈ h''.wr ∨ h.mark ≤ b := p.mark ▸ hm
        cases h6 : ρ.L b v₀ with
        | some r₁ =>
          have := p.keeps.L h6
          rw [h4] at this
          cases this
          exact .inr ⟨hm, v₀, _, h6, h5.imp (Nat.le_trans p.grows) id⟩
        | none =>
          rcases p.newL h4 h6 with ⟨a, b', c⟩ | ⟨_, v₁, r₁, h7, h8⟩
          · refine .inl ⟨a, Nat.lt_of_lt_of_le b' q.size, ?_⟩
            rcases h5 with h5 | h5
            · exact Nat.le_trans p.grows h5
            · exact h5 ▸ c
          · refine .inr ⟨hm, v₁, r₁, h7, ?_⟩
            rcases h5 with h5 | h5
            · exact .inl (Nat.le_trans p.grows h5)
            · rw [h5]; exact h8
  newS := by
    intro r o h1
    rcases q.newS h1 with h2 | h2 | ⟨b, v, h2, hm⟩
    · rcases p.newS h2 with h3 | h3 | ⟨b, v, h3, hm⟩
      · exact .inl h3
      · exact .inr (.inl h3)
      · exact .inr (.inr ⟨b, v, h3, hm.imp (q.told b) id⟩)
    · exact .inr (.inl (Nat.le_trans p.grows h2))
    · have hm : b ∈ h''.wr ∨ h.mark ≤ b := p.mark ▸ hm
      cases h3 : ρ.L b v with
      | some r' =>
        have := p.keeps.L h3
        rw [h2] at this
        cases this
        exact .inr (.inr ⟨b, v, h3, hm⟩)
      | none =>
        rcases p.newL h2 h3 with ⟨_, _, c⟩ | ⟨_, v₀, r₀, h4, h5⟩
        · exact .inr (.inl c)
        · rcases h5 with h5 | h5
          · exact .inr (.inl h5)
          · exact .inr (.inr ⟨b, v₀, h5 ▸ h4, hm⟩)
  rest := by
    intro r hr hb
    have h1 : w'.heap[r]? = w.heap[r]? := p.rest hr (fun b v hL => ⟨(hb b v hL).1, fun hm => (hb b v hL).2 (q.told b hm)⟩)
    rw [← h1]
    refine q.rest (Nat.lt_of_lt_of_le hr p.grows) (fun b v hL => ?_)
    cases h3 : ρ.L b v with
    | some r' =>
      have := p.keeps.L h3
      rw [hL] at this
      cases this
      exact ⟨p.mark ▸ (hb b v h3).1, (hb b v h3).2⟩
    | none =>
      rcases p.newL hL h3 with ⟨_, _, c⟩ | ⟨_, v₀, r₀, h4, h5⟩
      · omega
      · rcases h5 with h5 | h5
        · omega
        · have := hb b v₀ (h5 ▸ h4)
          exact ⟨p.mark ▸ this.1, this.2⟩
  same := by
    intro b hb hn
    rw [q.same (p.mark ▸ hb) hn]
    exact p.same hb (fun hm => hn (q.told b hm))
  world := ⟨q.world.1.trans p.world.1, q.world.2.1.trans p.world.2.1, q.world.2.2.trans p.world.2.2⟩

end Go.E

namespace Go.E

/-! ### What any run of E does to its heap -/
structure HStep (h h' : H) : Prop where
  size : h.size ≤ h'.size
  mark : h'.mark = h.mark
  told : ∀ b ∈ h.wr, b ∈ h'.wr
  wrs : ∀ b ∈ h'.wr, b ∈ h.wr ∨ b < h.mark
  same : h.mark ≤ h.size → ∀ {b : Nat}, b < h.mark → b ∉ h'.wr → h'.get b = h.get b
  dom : (∀ {b : Nat} {blk : Blk}, h.get b = some blk → b < h.size) → ∀ {b : Nat} {blk : Blk}, h'.get b = some blk → b < h'.size

theorem HStep.refl (h : H) : HStep h h := ⟨Nat.le_refl _, rfl, fun _ h => h, fun _ h => .inl h, fun _ _ _ _ => rfl, fun h => h⟩

theorem HStep.trans {h h' h'' : H} (p : HStep h h') (q : HStep h' h'') : HStep h h'' where
  size := Nat.le_trans p.size q.size
  mark := q.mark.trans p.mark
  told := fun b hb => q.told b (p.told b hb)
  wrs := fun b hb => by
    rcases q.wrs b hb with h1 | h1
    · exact p.wrs b h1
    · exact .inr (p.mark ▸ h1)
  same := fun hm b hb hn => by
    have h1 := p.mark
    have h2 := p.size
    rw [q.same (by omega) (by omega) hn, p.same hm hb (fun h => hn (q.told _ h))]
  dom := fun h => q.dom (p.dom h)

theorem HStep.push (h : H) (x : Blk) : HStep h (h.push x) where
  size := by simp
  mark := rfl
  told := fun _ hb => hb
  wrs := fun _ hb => .inl hb
  same := fun hm b hb _ => by rw [H.get_push, if_neg (by omega)]
  dom := fun hd b blk hg => by
    rw [H.get_push] at hg
    split at hg
    · rename_i e; subst e; simp
    · have := hd hg; simp; omega

theorem HStep.put {h : H} {b : Nat} {x y : Blk} (hx : h.get b = some x) : HStep h (h.put b y) where
  size := Nat.le_refl _
  mark := rfl
  told := fun z hz => by rw [H.wr_put]; split <;> simp [hz]
  wrs := fun z hz => by
    rw [H.wr_put] at hz
    split at hz
    · rcases List.mem_cons.1 hz with rfl | hz
      · exact .inr (by assumption)
      · exact .inl hz
    · exact .inl hz
  same := fun hm z hz hn => by
    rw [H.get_put]
    split
    · rename_i e; subst e; rw [H.wr_put, if_pos hz] at hn; exact absurd (by simp) hn
    · rfl
  dom := fun hd z blk hg => by
    rw [H.get_put] at hg
    split at hg
    · rename_i e; subst e; exact hd hx
    · exact hd hg

def RStep {α : Type} (h : H) : R α → Prop
  | .ok _ h' => HStep h h'
  | .pan _ h' => HStep h h'
  | .fail => True

theorem RStep.bind {α β : Type} {h : H} {r : R α} {f : α → H → R β} (hr : RStep h r) (hf : ∀ a h', r = .ok a h' → RStep h' (f a h')) : RStep h (r.bind f) := by
  cases r with
  | ok a h' =>
    have h1 := hf a h' rfl
    simp only [R.bind]
    cases hq : f a h' with
    | ok b h'' => rw [hq] at h1; exact hr.trans h1
    | pan v h'' => rw [hq] at h1; exact hr.trans h1
    | fail => trivial
  | pan v h' => exact hr
  | fail => trivial

theorem RStep.o2r {α : Type} {h : H} {x : Option α} : RStep h (o2r x h) := by
  cases x
  · trivial
  · exact HStep.refl h

theorem RStep.o2r' {α : Type} {h h' : H} {x : Option α} (hs : HStep h h') : RStep h (E.o2r x h') := by
  cases x
  · trivial
  · exact hs

theorem writeAt_step {h h' : H} {b off v : Nat} {vs : List V} (hw : writeAt h b off v vs = some h') : HStep h h' := by
  unfold writeAt at hw
  simp only [Bool.cond_eq_ite] at hw
  split at hw
  · rename_i cs e g frz hg
    split at hw
    · cases hw; exact .put hg
    · cases hw
  · cases hw

theorem appendE_step {h : H} {e : TypeId} {size bytes : Nat} {new : List V} {k : Nat} {x : V} : RStep h (appendE h e size bytes new k x) := by
  unfold appendE
  simp only [Bool.cond_eq_ite]
  repeat' split
  all_goals first
    | trivial
    | exact HStep.refl h
    | exact HStep.push h _
    | (rename_i hw; exact writeAt_step hw)
    | (exact HStep.put (by assumption))
    | exact HStep.push h _

theorem simpleOp_step (C : Ctx) (env : Env) (h : H) (op : EOp) : RStep h (simpleOp C env h op) := by
  cases op <;> simp only [simpleOp, Bool.cond_eq_ite]
  all_goals repeat' split
  all_goals first
    | trivial
    | exact HStep.refl h
    | exact RStep.o2r
    | exact HStep.push h _
    | exact appendE_step
    | (rename_i hw; exact writeAt_step hw)
    | (exact HStep.put (by assumption))

def CallStep (call : Call) : Prop := ∀ (g : V) (args : List V) (h : H), RStep h (call g args h)

section
variable {C : Ctx} {call : Call}

theorem runOp_step (hc : CallStep call) (env : Env) (h : H) (op : EOp) : RStep h (runOp C call env h op) := by
  cases op <;> simp only [runOp] <;> first
    | exact simpleOp_step _ _ _ _
    | exact hc _ _ _
    | skip
  repeat' split
  all_goals first
    | trivial
    | exact hc _ _ _

theorem runOps_step (hc : CallStep call) : ∀ (l : List EOper) (env : Env) (h : H), RStep h (runOps C call l env h)
  | [], env, h => HStep.refl h
  | o :: l, env, h => by
    simp only [runOps]
    split
    · exact (runOp_step hc env h o.op).bind fun a h' _ => runOps_step hc l _ _
    · exact runOps_step hc l _ _
    · trivial

/-- the marks laid anew ahead of an operation -/
def H.norm (h : H) : H := { h with mark := h.size, wr := [] }
theorem norm_eq (h : H) : { h with mark := h.size, wr := [] } = h.norm := rfl
@[simp] theorem norm_get (h : H) (b : Nat) : h.norm.get b = h.get b := rfl
@[simp] theorem norm_size (h : H) : h.norm.size = h.size := rfl
@[simp] theorem norm_mark (h : H) : h.norm.mark = h.size := rfl
@[simp] theorem norm_wr (h : H) : h.norm.wr = [] := rfl

theorem HStep.draw {h h' : H} (s : HStep h.norm h') : HStep h { h' with mark := h.mark, wr := h'.wr.filter (Nat.blt · h.mark) ++ h.wr } where
  size := s.size
  mark := rfl
  told := fun b hb => by simp [hb]
  wrs := fun b hb => by
    rcases List.mem_append.1 hb with h1 | h1
    · exact .inr (by simpa [nblt] using (List.mem_filter.1 h1).2)
    · exact .inl h1
  same := fun hm b hb hn => by
    have : b ∉ h'.wr := fun hh => hn (by simp [hh, nblt, hb])
    exact s.same (Nat.le_refl _) (by simp; omega) this
  dom := fun hd => s.dom hd

theorem runDraw_step (hc : CallStep call) : ∀ (l : List EOper) (env : Env) (h : H) (acc : List Did), RStep h (runDraw C call l env h acc)
  | [], env, h, acc => HStep.refl h
  | o :: l, env, h, acc => by
    simp only [runDraw, norm_eq]
    split
    · have h1 := runOp_step (C := C) hc env h.norm o.op
      cases hr : runOp C call env h.norm o.op with
      | ok v h' =>
        rw [hr] at h1
        simp only
        have h2 := HStep.draw h1
        have h3 := runDraw_step hc l (put env o.dst v) { h' with mark := h.mark, wr := h'.wr.filter (Nat.blt · h.mark) ++ h.wr } (⟨h'.wr, footOf C env o.op h'.wr, tagOf C env o.op, v, h.size, h'.size⟩ :: acc)
        generalize runDraw C call l (put env o.dst v) { h' with mark := h.mark, wr := h'.wr.filter (Nat.blt · h.mark) ++ h.wr } (⟨h'.wr, footOf C env o.op h'.wr, tagOf C env o.op, v, h.size, h'.size⟩ :: acc) = r at h3
        cases r with
        | ok a h'' => exact h2.trans h3
        | pan a h'' => exact h2.trans h3
        | fail => trivial
      | pan v h' => trivial
      | fail => trivial
    · exact runDraw_step hc l _ _ _
    · trivial

theorem iter_step {body : Env → H → R (Ex × Env)} (hb : ∀ env h, RStep h (body env h)) : ∀ (n : Nat) (env : Env) (h : H), RStep h (iter body n env h)
  | 0, _, _ => trivial
  | n + 1, env, h => by
    simp only [iter]
    refine (hb env h).bind fun a h' _ => ?_
    obtain ⟨ex, env'⟩ := a
    cases ex
    · exact iter_step hb n _ _
    · exact HStep.refl _
    · exact HStep.refl _

theorem runCode_step (hc : CallStep call) (fuel : Nat) : ∀ (c : ECode) (env : Env) (h : H), RStep h (runCode C call fuel c env h)
  | .skip, env, h => HStep.refl h
  | .region ops, env, h => (runOps_step hc ops env h).bind fun _ _ _ => HStep.refl _
  | .draw ops un, env, h => by
    simp only [runCode]
    refine (runDraw_step hc ops env h []).bind fun a h' _ => ?_
    simp only [Bool.cond_eq_ite]
    split
    · exact HStep.refl _
    · trivial
  | .seq a b, env, h => by
    simp only [runCode]
    refine (runCode_step hc fuel a env h).bind fun x h' _ => ?_
    obtain ⟨ex, env'⟩ := x
    cases ex
    · exact runCode_step hc fuel b _ _
    · exact HStep.refl _
    · exact HStep.refl _
  | .cond c a b, env, h => by
    simp only [runCode]
    split
    · exact runCode_step hc fuel a _ _
    · exact runCode_step hc fuel b _ _
    · trivial
  | .block id c, env, h => by
    simp only [runCode]
    refine (runCode_step hc fuel c env h).bind fun x h' _ => ?_
    obtain ⟨ex, env'⟩ := x
    cases ex <;> simp only [Bool.cond_eq_ite]
    · exact HStep.refl h'
    · split <;> exact HStep.refl h'
    · exact HStep.refl h'
  | .loop c, env, h => by
    simp only [runCode]
    exact iter_step (fun env h => runCode_step hc fuel c env h) fuel env h
  | .rangeFunc f ps assign body, env, h => by
    simp only [runCode]
    split
    · split
      · rename_i fi a b _ _ _ _
        have h1 : RStep h (call (.func (.func fi) a b) [.func (.yield h.size) [] []] (h.push (.loop ps env assign body 0 none))) := by
          have h2 := hc (.func (.func fi) a b) [.func (.yield h.size) [] []] (h.push (.loop ps env assign body 0 none))
          generalize call (.func (.func fi) a b) [.func (.yield h.size) [] []] (h.push (.loop ps env assign body 0 none)) = r at h2
          cases r with
          | ok a h'' => exact (HStep.push h _).trans h2
          | pan a h'' => exact (HStep.push h _).trans h2
          | fail => trivial
        refine h1.bind fun x h' _ => ?_
        split
        · rename_i hg
          simp only [Bool.cond_eq_ite]
          repeat' split
          all_goals first
            | trivial
            | exact HStep.put hg
        · trivial
      · trivial
    · trivial
  | .exit i, env, h => HStep.refl h
  | .ret, env, h => HStep.refl h
  | .bad, _, _ => trivial

theorem special_step (hc : CallStep call) (s : Sp) (args : List V) (h : H) : RStep h (special call s args h) := by
  unfold special
  simp only [Bool.cond_eq_ite]
  repeat' split
  all_goals first
    | trivial
    | exact HStep.refl h
    | skip
  rename_i g _ _ _ hg
  have := hc g [] h
  rw [hg] at this
  exact this

theorem body_step (hc : CallStep call) (fuel : Nat) (fn : EFunc) (args : List V) (h : H) : RStep h (body C call fuel fn args h) := by
  unfold body
  simp only [Bool.cond_eq_ite]
  split
  · trivial
  · refine (runCode_step hc fuel fn.body _ h).bind fun x h' _ => ?_
    obtain ⟨ex, env'⟩ := x
    cases ex
    · exact RStep.o2r
    · trivial
    · exact RStep.o2r

theorem freezeB_step : ∀ (l : List Nat) (h : H), HStep h (freezeB h l)
  | [], h => .refl h
  | b :: l, h => by
    simp only [freezeB]
    split
    · rename_i hg
      exact (HStep.put hg).trans (freezeB_step l _)
    · exact freezeB_step l _

theorem runApart_step (fuel f : Nat) (fn : EFunc) (args : List V) (h : H) : RStep h (runApart C call fuel f fn args h) := by
  unfold runApart
  simp only [Bool.cond_eq_ite]
  repeat' split
  all_goals first
    | trivial
    | exact HStep.refl h
    | exact freezeB_step _ h

theorem roundE_step (hc : CallStep call) (fuel l : Nat) (args : List V) (h : H) : RStep h (roundE C call fuel l args h) := by
  unfold roundE
  simp only [Bool.cond_eq_ite]
  split
  · rename_i ps env as bo st pd hg
    split
    · trivial
    · have s1 := runCode_step (C := C) hc fuel as ((ps.zip args).foldl (fun e x => e.set x.1 x.2) env) h
      split
      · rename_i env1 h1 hr1
        rw [hr1] at s1
        split
        · rename_i ps1 e1 as1 bo1 pd1 hg1
          have s2 := runCode_step (C := C) hc fuel bo env1 (h1.put l (.loop ps1 e1 as1 bo1 1 pd1))
          split
          · rename_i ex x h2 hr2
            rw [hr2] at s2
            split
            · rename_i hg2
              have s3 := (s1.trans (HStep.put hg1)).trans s2
              cases ex
              · exact s3.trans (HStep.put hg2)
              · exact s3.trans (HStep.put hg2)
              · exact s3.trans (HStep.put hg2)
            · trivial
          · trivial
        · trivial
      · trivial
  · trivial

theorem callN_step (C : Ctx) : ∀ n, CallStep (callN C n)
  | 0 => fun _ _ _ => trivial
  | n + 1 => fun g args h => by
    have ih := callN_step C n
    simp only [callN]
    split
    · split
      · exact special_step ih _ _ _
      · split
        · simp only [Bool.cond_eq_ite]
          split
          · exact runApart_step _ _ _ _ _
          · exact body_step ih _ _ _ _
        · trivial
    · exact roundE_step ih _ _ _ _
    · trivial
end
end Go.E
