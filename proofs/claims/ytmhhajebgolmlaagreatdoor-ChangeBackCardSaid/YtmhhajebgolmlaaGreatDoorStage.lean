/- ChangeBack comes to true of every list of changes and every string. -/
import Derived.Test.YtmhhajebgolmlaaGreatDoorFactC
import Derived.Test.YtmhhajebgolmlaaGreatDoorOk
import Derived.Test.YtmhhajebgolmlaaGreatDoorLives1
import Derived.Test.YtmhhajebgolmlaaGreatDoorLives2
import Derived.Test.YtmhhajebgolmlaaGreatDoorLives3
import Derived.Test.YtmhhajebgolmlaaGreatDoorLives4
import Derived.Test.YtmhhajebgolmlaaGreatDoorLives5
set_option linter.unusedSimpArgs false
set_option linter.unusedVariables false
namespace Go.E.Lives
open Go Go.E Go.Proofs Pk
set_option maxRecDepth 100000

theorem app {Q : Entry → Prop} {A B : List Entry} (h : ∀ e ∈ A, Q e) (k : ∀ e ∈ B, Q e) : ∀ e ∈ A ++ B, Q e := fun e he => (List.mem_append.1 he).elim (h e) (k e)
def Known (m : Int) (e : Entry) : Prop := Fact Tryz.prog (glob m) e.1 e.2.1 e.2.2
theorem more (m : Int) {T U : List Entry} (hT : ∀ e ∈ T, Known m e) (h : (U.all fun e => runs ((told m).ctx Tryz.prog fun f args => memoIn f args T) 1000 e) = true) : ∀ e ∈ U, Known m e :=
  facts_more (told_ok m) (T := T) hT h
theorem f1 (m : Int) : ∀ e ∈ T1, Known m e := more m (T := B1) (fun _ he => absurd he (List.not_mem_nil)) (r1 m)
theorem f2 (m : Int) : ∀ e ∈ T2, Known m e := more m (T := B2) (fun _ he => absurd he (List.not_mem_nil)) (r2 m)
theorem f3 (m : Int) : ∀ e ∈ T3, Known m e := more m (T := B3) (fun _ he => absurd he (List.not_mem_nil)) (r3 m)
theorem f4 (m : Int) : ∀ e ∈ T4, Known m e := more m (T := B4) (app (app (f1 m) (f2 m)) (f3 m)) (r4 m)
theorem f5 (m : Int) : ∀ e ∈ T5, Known m e := more m (T := B5) (app (app (app (f1 m) (f2 m)) (f3 m)) (f4 m)) (r5 m)
theorem f6 (m : Int) : ∀ e ∈ T6, Known m e := more m (T := B6) (app (app (app (app (f1 m) (f2 m)) (f3 m)) (f4 m)) (f5 m)) (r6 m)
theorem f7 (m : Int) : ∀ e ∈ T7, Known m e := more m (T := B7) (app (app (app (app (app (f1 m) (f2 m)) (f3 m)) (f4 m)) (f5 m)) (f6 m)) (r7 m)
theorem f8 (m : Int) : ∀ e ∈ T8, Known m e := more m (T := B8) (app (app (app (app (app (app (f1 m) (f2 m)) (f3 m)) (f4 m)) (f5 m)) (f6 m)) (f7 m)) (r8 m)
theorem f9 (m : Int) : ∀ e ∈ T9, Known m e := more m (T := B9) (app (app (app (app (app (app (app (f1 m) (f2 m)) (f3 m)) (f4 m)) (f5 m)) (f6 m)) (f7 m)) (f8 m)) (r9 m)
theorem f10 (m : Int) : ∀ e ∈ T10, Known m e := more m (T := B10) (app (app (app (app (app (app (app (app (f1 m) (f2 m)) (f3 m)) (f4 m)) (f5 m)) (f6 m)) (f7 m)) (f8 m)) (f9 m)) (r10 m)
theorem f11 (m : Int) : ∀ e ∈ T11, Known m e := more m (T := B11) (app (app (app (app (app (app (app (app (app (f1 m) (f2 m)) (f3 m)) (f4 m)) (f5 m)) (f6 m)) (f7 m)) (f8 m)) (f9 m)) (f10 m)) (r11 m)
theorem f12 (m : Int) : ∀ e ∈ T12, Known m e := more m (T := B12) (app (app (app (app (app (app (app (app (app (app (f1 m) (f2 m)) (f3 m)) (f4 m)) (f5 m)) (f6 m)) (f7 m)) (f8 m)) (f9 m)) (f10 m)) (f11 m)) (r12 m)
theorem f13 (m : Int) : ∀ e ∈ T13, Known m e := more m (T := B13) (app (app (app (app (app (app (app (app (app (app (app (f1 m) (f2 m)) (f3 m)) (f4 m)) (f5 m)) (f6 m)) (f7 m)) (f8 m)) (f9 m)) (f10 m)) (f11 m)) (f12 m)) (r13 m)
theorem lives_fact (m : Int) : Fact Tryz.prog (glob m) 4 [] (.bool true) := f13 m (4, [], .bool true) (by simp [T13])

/-! ### Facts of families -/
open Classical in
noncomputable def over (memo : Nat → List V → Option V) (f0 : Nat) {ι : Type} (a : ι → List V) (r : ι → V) : Nat → List V → Option V :=
  fun f args => if h : f = f0 ∧ ∃ i, a i = args then some (r (Classical.choose h.2)) else memo f args
theorem over_eq {memo : Nat → List V → Option V} {f0 : Nat} {ι : Type} {a : ι → List V} {r : ι → V} (hc : ∀ i j, a i = a j → r i = r j) (i : ι) : over memo f0 a r f0 (a i) = some (r i) := by
  have h : f0 = f0 ∧ ∃ j, a j = a i := ⟨rfl, i, rfl⟩
  unfold over
  rw [dif_pos h]
  exact congrArg some (hc _ _ (Classical.choose_spec h.2))
theorem over_ne {memo : Nat → List V → Option V} {f0 f : Nat} {ι : Type} {a : ι → List V} {r : ι → V} (h : f ≠ f0) (args : List V) : over memo f0 a r f args = memo f args := by
  unfold over
  rw [dif_neg (fun hh => h hh.1)]
theorem over_fact {Q : Nat → List V → V → Prop} {memo : Nat → List V → Option V} {f0 : Nat} {ι : Type} {a : ι → List V} {r : ι → V} (hm : ∀ f args v, memo f args = some v → Q f args v) (hn : ∀ i, Q f0 (a i) (r i)) :
    ∀ f args v, over memo f0 a r f args = some v → Q f args v := by
  intro f args v h
  unfold over at h
  split at h
  · rename_i hh
    cases h
    have hs := Classical.choose_spec hh.2
    have := hn (Classical.choose hh.2)
    generalize Classical.choose hh.2 = i at hs this ⊢
    rw [hh.1, ← hs]
    exact this
  · exact hm _ _ _ h

noncomputable abbrev ctx (m : Int) (memo : Nat → List V → Option V) : Ctx := (toldChanges m).ctx Tryz.prog memo
theorem fns (m : Int) (memo : Nat → List V → Option V) : Fns (ctx m memo) where
  plain := by
    intro p hp
    simp only [plainFns, List.mem_cons, List.not_mem_nil, or_false] at hp
    rcases hp with rfl | rfl | rfl | rfl | rfl | rfl | rfl | rfl | rfl | rfl | rfl | rfl | rfl | rfl
    all_goals exact ⟨by kernel_rfl, by kernel_rfl, by kernel_rfl⟩
  apart := by
    intro p hp
    simp only [apartFns, List.mem_cons, List.not_mem_nil, or_false] at hp
    rcases hp with rfl | rfl | rfl | rfl | rfl | rfl | rfl | rfl | rfl | rfl | rfl
    all_goals exact ⟨by kernel_rfl, by kernel_rfl, by kernel_rfl⟩
  esc := by kernel_rfl
  lies := by kernel_rfl
theorem func3 (m : Int) (memo : Nat → List V → Option V) : (ctx m memo).func 3 = some Fn.ef3 := by kernel_rfl
noncomputable def ef4 : EFunc := ((Tryz.prog.funcs[4]?).bind (compFunc Tryz.prog)).getD ⟨0, [], .ret⟩
theorem four (m : Int) (memo : Nat → List V → Option V) : (ctx m memo).spec 4 = none ∧ (ctx m memo).func 4 = some ef4 ∧ (ctx m memo).apart 4 = true := ⟨by kernel_rfl, by kernel_rfl, by kernel_rfl⟩

theorem stage {m : Int} {memo : Nat → List V → Option V} (hm : ∀ f args v, memo f args = some v → Fact Tryz.prog (glob m) f args v) {f : Nat} {efn : EFunc} (hf : (ctx m memo).func f = some efn) {args : List V} {v : V} {n fuel : Nat}
    (h : ∃ v0 h' bs, body (ctx m memo) (callN (ctx m memo) n) fuel efn args H.new = .ok v0 h' ∧ resolve 1000 h' v0 = some (v, bs)) : Fact Tryz.prog (glob m) f args v := by
  obtain ⟨v0, h', bs, h1, h2⟩ := h
  exact fact_by_run ((toldChanges_ok m).good hm) hf h1 h2
theorem plainly {C : Ctx} {call : Call} {fuel : Nat} {efn : EFunc} {args : List V} {v : V} (hc : closed v = true) (h : ∃ h', body C call fuel efn args H.new = .ok v h') : ∃ v0 h' bs, body C call fuel efn args H.new = .ok v0 h' ∧ resolve 1000 h' v0 = some (v, bs) := by
  obtain ⟨h', h⟩ := h
  exact ⟨v, h', [], h, by show resolve (999 + 1) h' v = _; unfold resolve; rw [hc]; rfl⟩

theorem encs_inj : ∀ (l m : List Ch), encs l = encs m → l = m
  | [], [], _ => rfl
  | [], c :: m, h => by simp [encs, enc] at h
  | c :: l, [], h => by simp [encs, enc] at h
  | c :: l, d :: m, h => by
    have h1 : enc c ++ encs l = enc d ++ encs m := h
    obtain ⟨h2, h3⟩ := List.append_inj h1 rfl
    rw [enc_inj h2, encs_inj l m h3]
theorem sl_one {v : V} {l k : List Ch} (hl : SlOf v l) (hk : SlOf v k) : l = k := by
  cases hl with
  | nil =>
    generalize hv : V.snil = v at hk
    cases hk with
    | nil => rfl
    | some => simp [slV] at hv
  | some l ex =>
    generalize hv : slV l ex = v at hk
    cases hk with
    | nil => simp [slV] at hv
    | some k ex' =>
      simp only [slV, V.simm.injEq] at hv
      exact encs_inj _ _ hv.1
theorem bytes_left {s t : List Nat} (h : Bytes (s ++ t)) : Bytes s := fun n hn => h n (List.mem_append_left _ hn)
theorem chBytes {l : List Ch} (h : Bytes (packL l)) : ∀ c ∈ l, ChBytes c := by
  intro c hc
  have h1 : Bytes (packCh c) := fun n hn => h n (by simp only [packL, List.mem_cons, List.mem_flatMap]; exact .inr ⟨c, hc, hn⟩)
  have h2 : Bytes (packText c.id ++ (packText c.text ++ (packText c.ty ++ packText c.uid))) := fun n hn => h1 n (List.mem_cons_of_mem _ hn)
  have t : ∀ {s : List Nat}, Bytes (packText s) → Bytes s := fun h => bytes_right h
  exact ⟨h1 c.k (by simp [packCh]), t (bytes_left h2), t (bytes_left (bytes_right h2)), t (bytes_left (bytes_right (bytes_right h2))), t (bytes_right (bytes_right (bytes_right h2)))⟩

abbrev Ok (m : Int) (memo : Nat → List V → Option V) : Prop := ∀ f args v, memo f args = some v → Fact Tryz.prog (glob m) f args v

abbrev Quad := { x : Nat × Nat × Nat × Nat // Bytes [x.1, x.2.1, x.2.2.1, x.2.2.2] }
abbrev Short := { s : List Nat // Bytes s ∧ (s = [] ∨ s.length = 4) }
abbrev Listed := { x : V × List Ch // SlOf x.1 x.2 ∧ ∀ c ∈ x.2, ChBytes c }
abbrev Two := { x : (V × List Ch) × (V × List Ch) // SlOf x.1.1 x.1.2 ∧ SlOf x.2.1 x.2.2 ∧ x.1.2.length ≤ 255 }

noncomputable def M1 : Nat → List V → Option V := over (fun _ _ => none) 17 (fun c : Ch => [.agg (enc c)]) (fun c => .bool (right c))
noncomputable def M2 : Nat → List V → Option V := over M1 84 (fun k : Nat => [.int .u64 k]) (fun k => .str (le8 k))
noncomputable def M3 : Nat → List V → Option V := over M2 193 (fun x : Quad => [.str [x.1.1, x.1.2.1, x.1.2.2.1, x.1.2.2.2, 0, 0, 0, 0]]) (fun x => .tup [.int .u64 (get4 [x.1.1, x.1.2.1, x.1.2.2.1, x.1.2.2.2]), .int .i64 0])
noncomputable def M4 : Nat → List V → Option V := over M3 41 (fun k : { k : Nat // k < 4294967296 } => [.int .u32 k.1]) (fun k => .str (le4 k.1))
noncomputable def M5 : Nat → List V → Option V := over M4 86 (fun s : Short => [.str s.1]) (fun s => .tup [.int .u32 (get4 s.1), .int .i64 (if s.1 = [] then 14 else 0)])
noncomputable def M6 : Nat → List V → Option V := over M5 20 (fun s : { s : List Nat // s.length ≤ 2048 } => [.str s.1]) (fun s => .str (packText s.1))
noncomputable def M7 : Nat → List V → Option V := over M6 11 (fun c : Ch => [.agg (enc c)]) (fun c => .bool (long c))
noncomputable def M8 : Nat → List V → Option V := over M7 16 (fun c : Ch => [.agg (enc c)]) (fun c => .bool !right c)
noncomputable def M9 : Nat → List V → Option V := over M8 5 (fun x : Listed => [x.1.1]) (fun x => .tup [.str (packS x.1.2), .int .i64 (packE x.1.2)])
noncomputable def M10 : Nat → List V → Option V := over M9 6 (fun s : { s : List Nat // Bytes s } => [.str s.1]) (fun s => unpackV s.1)
noncomputable def M11 : Nat → List V → Option V := over M10 7 (fun x : Two => [x.1.1.1, x.1.2.1]) (fun x => .bool (sameL x.1.1.2 x.1.2.2))
noncomputable def M12 : Nat → List V → Option V := over M11 4 (fun _ : Unit => []) (fun _ => .bool true)

theorem n2 {f : Nat} {args : List V} (h : f ≠ 84) : M2 f args = M1 f args := over_ne h args
theorem n3 {f : Nat} {args : List V} (h : f ≠ 193) : M3 f args = M2 f args := over_ne h args
theorem n4 {f : Nat} {args : List V} (h : f ≠ 41) : M4 f args = M3 f args := over_ne h args
theorem n5 {f : Nat} {args : List V} (h : f ≠ 86) : M5 f args = M4 f args := over_ne h args
theorem n6 {f : Nat} {args : List V} (h : f ≠ 20) : M6 f args = M5 f args := over_ne h args
theorem n7 {f : Nat} {args : List V} (h : f ≠ 11) : M7 f args = M6 f args := over_ne h args
theorem n8 {f : Nat} {args : List V} (h : f ≠ 16) : M8 f args = M7 f args := over_ne h args
theorem n9 {f : Nat} {args : List V} (h : f ≠ 5) : M9 f args = M8 f args := over_ne h args
theorem n10 {f : Nat} {args : List V} (h : f ≠ 6) : M10 f args = M9 f args := over_ne h args
theorem n11 {f : Nat} {args : List V} (h : f ≠ 7) : M11 f args = M10 f args := over_ne h args
theorem n12 {f : Nat} {args : List V} (h : f ≠ 4) : M12 f args = M11 f args := over_ne h args

theorem fn_apart (m : Int) (memo : Nat → List V → Option V) {f : Nat} {efn : EFunc} (hm : (f, efn) ∈ apartFns) : (ctx m memo).func f = some efn := ((fns m memo).apart _ hm).2.1

theorem chInj (p : Ch → V) : ∀ i j : Ch, [V.agg (enc i)] = [V.agg (enc j)] → p i = p j := fun i j h => by
  simp only [List.cons.injEq, V.agg.injEq, and_true] at h
  rw [enc_inj h]

theorem k17 (c : Ch) : M1 17 [.agg (enc c)] = some (.bool (right c)) := over_eq (chInj fun c => .bool (right c)) c
theorem k84 (k : Nat) : M2 84 [.int .u64 k] = some (.str (le8 k)) := over_eq (a := fun k : Nat => [V.int .u64 k]) (r := fun k => V.str (le8 k)) (fun i j h => by
  simp only [List.cons.injEq, V.int.injEq, Int.ofNat_inj, true_and, and_true] at h
  rw [h]) k
theorem k193 (a b c d : Nat) (hb : Bytes [a, b, c, d]) : M3 193 [.str [a, b, c, d, 0, 0, 0, 0]] = some (.tup [.int .u64 (get4 [a, b, c, d]), .int .i64 0]) :=
  over_eq (a := fun x : Quad => [V.str [x.1.1, x.1.2.1, x.1.2.2.1, x.1.2.2.2, 0, 0, 0, 0]]) (r := fun x => V.tup [.int .u64 (get4 [x.1.1, x.1.2.1, x.1.2.2.1, x.1.2.2.2]), .int .i64 0]) (fun i j h => by
    simp only [List.cons.injEq, V.str.injEq, and_true] at h
    obtain ⟨h1, h2, h3, h4⟩ := h
    simp only [h1, h2, h3, h4]) ⟨(a, b, c, d), hb⟩
theorem k41 (k : Nat) (hk : k < 4294967296) : M4 41 [.int .u32 k] = some (.str (le4 k)) := over_eq (a := fun k : { k : Nat // k < 4294967296 } => [V.int .u32 k.1]) (r := fun k => V.str (le4 k.1)) (fun i j h => by
  simp only [List.cons.injEq, V.int.injEq, Int.ofNat_inj, true_and, and_true] at h
  simp only [h]) ⟨k, hk⟩
theorem k86 (s : List Nat) (hb : Bytes s) (hs : s = [] ∨ s.length = 4) : M5 86 [.str s] = some (.tup [.int .u32 (get4 s), .int .i64 (if s = [] then 14 else 0)]) :=
  over_eq (a := fun s : Short => [V.str s.1]) (r := fun s => V.tup [.int .u32 (get4 s.1), .int .i64 (if s.1 = [] then 14 else 0)]) (fun i j h => by
    simp only [List.cons.injEq, V.str.injEq, and_true] at h
    simp only [h]) ⟨s, hb, hs⟩
theorem k20 (s : List Nat) (hs : s.length ≤ 2048) : M6 20 [.str s] = some (.str (packText s)) := over_eq (a := fun s : { s : List Nat // s.length ≤ 2048 } => [V.str s.1]) (r := fun s => V.str (packText s.1)) (fun i j h => by
  simp only [List.cons.injEq, V.str.injEq, and_true] at h
  simp only [h]) ⟨s, hs⟩
theorem k11 (c : Ch) : M7 11 [.agg (enc c)] = some (.bool (long c)) := over_eq (chInj fun c => .bool (long c)) c
theorem k16 (c : Ch) : M8 16 [.agg (enc c)] = some (.bool !right c) := over_eq (chInj fun c => .bool !right c) c
theorem k5 (v : V) (l : List Ch) (hv : SlOf v l) (hl : ∀ c ∈ l, ChBytes c) : M9 5 [v] = some (.tup [.str (packS l), .int .i64 (packE l)]) :=
  over_eq (a := fun x : Listed => [x.1.1]) (r := fun x => V.tup [.str (packS x.1.2), .int .i64 (packE x.1.2)]) (fun i j h => by
    simp only [List.cons.injEq, and_true] at h
    have := i.2.1
    rw [h] at this
    simp only [sl_one this j.2.1]) ⟨(v, l), hv, hl⟩
theorem k6 (s : List Nat) (hb : Bytes s) : M10 6 [.str s] = some (unpackV s) := over_eq (a := fun s : { s : List Nat // Bytes s } => [V.str s.1]) (r := fun s => unpackV s.1) (fun i j h => by
  simp only [List.cons.injEq, V.str.injEq, and_true] at h
  simp only [h]) ⟨s, hb⟩
theorem k7 (v u : V) (l k : List Ch) (hv : SlOf v l) (hu : SlOf u k) (hl : l.length ≤ 255) : M11 7 [v, u] = some (.bool (sameL l k)) :=
  over_eq (a := fun x : Two => [x.1.1.1, x.1.2.1]) (r := fun x => V.bool (sameL x.1.1.2 x.1.2.2)) (fun i j h => by
    simp only [List.cons.injEq, and_true] at h
    have h1 := i.2.1
    have h2 := i.2.2.1
    rw [h.1] at h1
    rw [h.2] at h2
    simp only [sl_one h1 j.2.1, sl_one h2 j.2.2.1]) ⟨((v, l), (u, k)), hv, hu, hl⟩
theorem k4 : M12 4 [] = some (.bool true) := over_eq (a := fun _ : Unit => []) (r := fun _ => V.bool true) (fun _ _ _ => rfl) ()

theorem ok1 (m : Int) : Ok m M1 := over_fact (fun _ _ _ h => by cases h) fun c => stage (fun _ _ _ h => by cases h) (fn_apart m (fun _ _ => none) (efn := Fn.ef17) (by simp [apartFns])) (n := 0) (plainly rfl (right_run _ _ 0 c))
theorem ok2 (m : Int) : Ok m M2 := over_fact (ok1 m) fun k => stage (ok1 m) (fn_apart m M1 (efn := Fn.ef84) (by simp [apartFns])) (n := 0) (plainly rfl (put64_run _ _ 0 k))
theorem ok3 (m : Int) : Ok m M3 := over_fact (ok2 m) fun x => stage (ok2 m) (fn_apart m M2 (efn := Fn.ef193) (by simp [apartFns])) (n := 0) (plainly rfl (by
  obtain ⟨⟨a, b, c, d⟩, hb⟩ := x
  have h := get64_run (ctx m M2) (callN (ctx m M2) 0) 0 a b c d 0 0 0 0 (fun n hn => by
    simp only [List.mem_cons, List.not_mem_nil, or_false] at hn
    have := hb n
    simp only [List.mem_cons, List.not_mem_nil, or_false] at this
    by_cases h0 : n = 0
    · omega
    · exact this (by omega))
  have e : get8 [a, b, c, d, 0, 0, 0, 0] = get4 [a, b, c, d] := by simp only [get8, get4]; omega
  rw [e] at h
  exact h))
theorem ok4 (m : Int) : Ok m M4 := over_fact (ok3 m) fun k => stage (ok3 m) (fn_apart m M3 (efn := Fn.ef41) (by simp [apartFns])) (n := 1) (fuel := 0) (plainly rfl (put32_run (fns m M3) (fun k => (n3 (by decide)).trans (k84 k)) 0 0 k.1 k.2))
theorem ok5 (m : Int) : Ok m M5 := over_fact (ok4 m) fun s => stage (ok4 m) (fn_apart m M4 (efn := Fn.ef86) (by simp [apartFns])) (n := 1) (fuel := 0) (plainly rfl (by
  obtain ⟨s, hb, hs⟩ := s
  rcases hs with rfl | hs
  · exact get32_none 0 0
  · match s, hs with
    | [a, b, c, d], _ =>
      exact get32_run (fns m M4) (fun a b c d hb => (n4 (by decide)).trans (k193 a b c d hb)) 0 0 a b c d hb))
theorem ok6 (m : Int) : Ok m M6 := over_fact (ok5 m) fun s => stage (ok5 m) (fn_apart m M5 (efn := Fn.ef20) (by simp [apartFns])) (n := 1) (fuel := 0) (plainly rfl (text_run (fns m M5) (fun k hk => (n5 (by decide)).trans (k41 k hk)) 0 0 s.1 s.2))
theorem ok7 (m : Int) : Ok m M7 := over_fact (ok6 m) fun c => stage (ok6 m) (fn_apart m M6 (efn := Fn.ef11) (by simp [apartFns])) (n := 8) (fuel := 0) (plainly rfl (long_run (fns m M6) 0 0 c))
theorem ok8 (m : Int) : Ok m M8 := over_fact (ok7 m) fun c => stage (ok7 m) (fn_apart m M7 (efn := Fn.ef16) (by simp [apartFns])) (n := 1) (fuel := 0) (plainly rfl (wrong_run (fns m M7) (fun c => (n7 (by decide)).trans ((n6 (by decide)).trans ((n5 (by decide)).trans ((n4 (by decide)).trans ((n3 (by decide)).trans ((n2 (by decide)).trans (k17 c))))))) 0 0 c))
theorem ok9 (m : Int) : Ok m M9 := over_fact (ok8 m) fun x => stage (ok8 m) (fn_apart m M8 (efn := Fn.ef5) (by simp [apartFns])) (n := 300) (fuel := 300) (plainly rfl (pack_run (fns m M8)
  (fun s hs => (n8 (by decide)).trans ((n7 (by decide)).trans (k20 s hs)))
  (fun c => (n8 (by decide)).trans (k11 c)) k16 0 0 x.1.1 x.1.2 x.2.1 (fun hg => bytes_packL (good_spec hg).1 x.2.2)))
theorem ok10 (m : Int) : Ok m M10 := over_fact (ok9 m) fun s => stage (ok9 m) (fn_apart m M9 (efn := Fn.ef6) (by simp [apartFns])) (n := 301) (fuel := 0) (unpack_run (fns m M9)
  (fun c => (n9 (by decide)).trans ((n8 (by decide)).trans ((n7 (by decide)).trans ((n6 (by decide)).trans ((n5 (by decide)).trans ((n4 (by decide)).trans ((n3 (by decide)).trans ((n2 (by decide)).trans (k17 c)))))))))
  (fun s hb hs => ⟨_, (n9 (by decide)).trans ((n8 (by decide)).trans ((n7 (by decide)).trans ((n6 (by decide)).trans (k86 s hb hs))))⟩) 0 0 s.1 s.2)
theorem ok11 (m : Int) : Ok m M11 := over_fact (ok10 m) fun x => stage (ok10 m) (fn_apart m M10 (efn := Fn.ef7) (by simp [apartFns])) (n := 0) (fuel := 256) (plainly rfl (same_run _ 256 x.2.1 x.2.2.1 (by have := x.2.2.2; omega) (by have := x.2.2.2; omega)))
theorem ok12 (m : Int) : Ok m M12 := over_fact (ok11 m) fun _ => lives_fact m

/-- ChangeBack: true of whatever list and of whatever string -/
theorem back_fact (m : Int) {v : V} {l : List Ch} {b : List Nat} (hv : SlOf v l) (hl : ∀ c ∈ l, ChBytes c) (hb : Bytes b) : Fact Tryz.prog (glob m) 3 [v, .str b] (.bool true) :=
  stage (ok12 m) (func3 m M12) (n := 1) (fuel := 0) (plainly rfl (back_run (fns m M12) ef4 (four m M12) k4
    (fun v l hv hl => (n12 (by decide)).trans ((n11 (by decide)).trans ((n10 (by decide)).trans (k5 v l hv hl))))
    (fun s hs => (n12 (by decide)).trans ((n11 (by decide)).trans (k6 s hs)))
    (fun v u l k hv hu hl => (n12 (by decide)).trans (k7 v u l k hv hu hl))
    (fun s l hs hu => by
      have h := (pack_unpack hs hu).2
      exact chBytes (by rw [h]; exact hs))
    0 0 v (.snil) (.snil) l b hv hl hb))
end Go.E.Lives
