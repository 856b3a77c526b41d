/- What Unpack, SameList and ChangeBack come to. -/
import Derived.Test.YtmhhajebgolmlaaGreatDoorFactB
set_option linter.unusedSimpArgs false
set_option linter.unusedVariables false
namespace Go.E
open Pk
set_option maxRecDepth 10000

def lCells (x : Lf) : Blk := .cells [.str x.bytes, .bool x.bad] 69 0 0

section
variable {C : Ctx}

theorem take_run (call : Call) (fuel : Nat) (x : Lf) (n : Nat) (h : H) (hg : h.get 0 = some (lCells x)) :
    ∃ h', body C call fuel Fn.ef85 [.ptr 0 0 2, .int .i64 n] h = .ok (.str (x.take n).1) h' ∧ h'.get 0 = some (lCells (x.take n).2) ∧ h'.size = h.size ∧ ∀ k, k ≠ 0 → h'.get k = h.get k := by
  obtain ⟨s, bad⟩ := x
  have hn : ¬ ((n : Int) < 0) := by omega
  simp only [lCells] at hg ⊢
  rw [body_eq _ _ _ _ _ _ (by simp [Fn.ef85])]
  cases bad with
  | true =>
    simp [Fn.ef85, code_seq, code_region, code_block, ops_cons, ops_nil, runOp, simpleOp, R.bind_ok, args1, args2, env_set, put_none, opd_tmp, opd_const, gs, V.cells?, andThen_normal, andThen_ret, andThen_exit, atEnd_normal, atEnd_ret, atEnd_exit, readAt, writeAt, H.get_push, H.get_put, H.size_push, H.size_put, new_size, nbeq, nble, nblt, o2r, mkVal, fillP, setL, cut, V.okCell, binop, unop, code_cond, code_skip, code_ret, code_exit, leave_ret, leave_normal, resultsOf, resultOf, asNat, optNat, code_draw, draw_cons, draw_nil, drawn_ok, drawEnd_ok, back_get, back_size, back_mark, norm_get, norm_size, norm_mark, norm_wr, ok_all, pairOk, wrOk, apartOk, footOf, foot, H.wr_put, H.wr_push, H.mark_put, H.mark_push, sliceCells, lenV, back_norm, back_norm_push, back_norm_put, ops_guard, hg, Lf.take, and_assoc]
    intro k k0
    simp [k0]
  | false =>
    by_cases hl : s.length < n
    · have hl' : (s.length : Int) < (n : Int) := by omega
      simp [Fn.ef85, code_seq, code_region, code_block, ops_cons, ops_nil, runOp, simpleOp, R.bind_ok, args1, args2, env_set, put_none, opd_tmp, opd_const, gs, V.cells?, andThen_normal, andThen_ret, andThen_exit, atEnd_normal, atEnd_ret, atEnd_exit, readAt, writeAt, H.get_push, H.get_put, H.size_push, H.size_put, new_size, nbeq, nble, nblt, o2r, mkVal, fillP, setL, cut, V.okCell, binop, unop, code_cond, code_skip, code_ret, code_exit, leave_ret, leave_normal, resultsOf, resultOf, asNat, optNat, code_draw, draw_cons, draw_nil, drawn_ok, drawEnd_ok, back_get, back_size, back_mark, norm_get, norm_size, norm_mark, norm_wr, ok_all, pairOk, wrOk, apartOk, footOf, foot, H.wr_put, H.wr_push, H.mark_put, H.mark_push, sliceCells, lenV, back_norm, back_norm_push, back_norm_put, ops_guard, hg, Lf.take, and_assoc, hn, hl, hl']
      intro k k0
      simp [k0]
    · have hl' : ¬ (s.length : Int) < (n : Int) := by omega
      have hl'' : n ≤ s.length := by omega
      have ht : (s.drop n).take (s.length - n) = s.drop n := List.take_of_length_le (by simp)
      simp [Fn.ef85, code_seq, code_region, code_block, ops_cons, ops_nil, runOp, simpleOp, R.bind_ok, args1, args2, env_set, put_none, opd_tmp, opd_const, gs, V.cells?, andThen_normal, andThen_ret, andThen_exit, atEnd_normal, atEnd_ret, atEnd_exit, readAt, writeAt, H.get_push, H.get_put, H.size_push, H.size_put, new_size, nbeq, nble, nblt, o2r, mkVal, fillP, setL, cut, V.okCell, binop, unop, code_cond, code_skip, code_ret, code_exit, leave_ret, leave_normal, resultsOf, resultOf, asNat, optNat, code_draw, draw_cons, draw_nil, drawn_ok, drawEnd_ok, back_get, back_size, back_mark, norm_get, norm_size, norm_mark, norm_wr, ok_all, pairOk, wrOk, apartOk, footOf, foot, H.wr_put, H.wr_push, H.mark_put, H.mark_push, sliceCells, lenV, back_norm, back_norm_push, back_norm_put, ops_guard, hg, Lf.take, and_assoc, hn, hl, hl', hl'', ht]
      intro k k0
      simp [k0]

theorem lbyte_run (F : Fns C) (n fuel : Nat) (x : Lf) (h : H) (hg : h.get 0 = some (lCells x)) :
    ∃ h', body C (callN C (n + 1)) fuel Fn.ef42 [.ptr 0 0 2] h = .ok (.int .u8 x.byte.1) h' ∧ h'.get 0 = some (lCells x.byte.2) ∧ h'.size = h.size ∧ ∀ k, k ≠ 0 → h'.get k = h.get k := by
  have c85 := fun args h => F.call (f := 85) (fn := Fn.ef85) (by simp [plainFns]) n args h
  obtain ⟨h1, r1, g1, s1, k1⟩ := take_run (C := C) (callN C n) n x 1 h hg
  rw [show ((1 : Nat) : Int) = 1 from rfl] at r1
  have g1' := g1
  simp only [lCells] at g1'
  rw [body_eq _ _ _ _ _ _ (by simp [Fn.ef42])]
  cases hb : (x.take 1).2.bad with
  | true =>
    have e : x.byte = (0, (x.take 1).2) := by simp [Lf.byte, hb]
    rw [e]
    rw [hb] at g1'
    refine ⟨h1, ?_, g1, s1, k1⟩
    simp [Fn.ef42, code_seq, code_region, code_block, ops_cons, ops_nil, runOp, simpleOp, R.bind_ok, args1, args2, env_set, put_none, opd_tmp, opd_const, gs, V.cells?, andThen_normal, andThen_ret, andThen_exit, atEnd_normal, atEnd_ret, atEnd_exit, readAt, writeAt, H.get_push, H.get_put, H.size_push, H.size_put, new_size, nbeq, nble, nblt, o2r, mkVal, fillP, setL, cut, V.okCell, binop, unop, code_cond, code_skip, code_ret, code_exit, leave_ret, leave_normal, resultsOf, resultOf, asNat, optNat, code_draw, draw_cons, draw_nil, drawn_ok, drawEnd_ok, back_get, back_size, back_mark, norm_get, norm_size, norm_mark, norm_wr, ok_all, pairOk, wrOk, apartOk, footOf, foot, H.wr_put, H.wr_push, H.mark_put, H.mark_push, sliceCells, lenV, back_norm, back_norm_push, back_norm_put, c85, r1, g1']
  | false =>
    have e : x.byte = ((x.take 1).1.headD 0, (x.take 1).2) := by simp [Lf.byte, hb]
    obtain ⟨_, _, h3⟩ := take_back hb
    rw [e]
    rw [hb] at g1'
    refine ⟨h1, ?_, g1, s1, k1⟩
    match hs : (x.take 1).1, h3 with
    | [b], _ =>
      rw [hs] at r1
      simp [Fn.ef42, code_seq, code_region, code_block, ops_cons, ops_nil, runOp, simpleOp, R.bind_ok, args1, args2, env_set, put_none, opd_tmp, opd_const, gs, V.cells?, andThen_normal, andThen_ret, andThen_exit, atEnd_normal, atEnd_ret, atEnd_exit, readAt, writeAt, H.get_push, H.get_put, H.size_push, H.size_put, new_size, nbeq, nble, nblt, o2r, mkVal, fillP, setL, cut, V.okCell, binop, unop, code_cond, code_skip, code_ret, code_exit, leave_ret, leave_normal, resultsOf, resultOf, asNat, optNat, code_draw, draw_cons, draw_nil, drawn_ok, drawEnd_ok, back_get, back_size, back_mark, norm_get, norm_size, norm_mark, norm_wr, ok_all, pairOk, wrOk, apartOk, footOf, foot, H.wr_put, H.wr_push, H.mark_put, H.mark_push, sliceCells, lenV, back_norm, back_norm_push, back_norm_put, c85, r1, g1']

theorem get4_lt {s : List Nat} (hb : Bytes s) : get4 s < 4294967296 := by
  unfold get4
  split
  · rename_i a b c d
    have h1 := hb a (by simp)
    have h2 := hb b (by simp)
    have h3 := hb c (by simp)
    have h4 := hb d (by simp)
    omega
  · omega

theorem take_bytes {x : Lf} {n : Nat} (hb : Bytes x.bytes) : Bytes (x.take n).1 ∧ Bytes (x.take n).2.bytes := by
  unfold Lf.take
  split
  · exact ⟨fun _ h => by simp at h, hb⟩
  · exact ⟨fun m hm => hb m (List.mem_of_mem_take hm), fun m hm => hb m (List.mem_of_mem_drop hm)⟩

theorem take_len {x : Lf} {n : Nat} : (x.take n).1 = [] ∨ (x.take n).1.length = n := by
  unfold Lf.take
  split
  · exact .inl rfl
  · rename_i h
    simp only [Bool.or_eq_true, decide_eq_true_eq, not_or, Nat.not_lt] at h
    exact .inr (by simp; omega)

theorem ltext_run (F : Fns C) (hk : ∀ s : List Nat, Bytes s → s = [] ∨ s.length = 4 → ∃ e : Int, C.memo 86 [.str s] = some (.tup [.int .u32 (get4 s), .int .i64 e])) (n fuel : Nat) (x : Lf) (h : H) (hg : h.get 0 = some (lCells x)) (hb : Bytes x.bytes) :
    ∃ h', body C (callN C (n + 1)) fuel Fn.ef43 [.ptr 0 0 2] h = .ok (.str x.text.1) h' ∧ h'.get 0 = some (lCells x.text.2) ∧ h'.size = h.size ∧ ∀ k, k ≠ 0 → h'.get k = h.get k := by
  have c85 := fun args h => F.call (f := 85) (fn := Fn.ef85) (by simp [plainFns]) n args h
  obtain ⟨h1, r1, g1, s1, k1⟩ := take_run (C := C) (callN C n) n x 4 h hg
  rw [show ((4 : Nat) : Int) = 4 from rfl] at r1
  have hb1 := (take_bytes (n := 4) hb).1
  obtain ⟨e, he⟩ := hk (x.take 4).1 hb1 take_len
  have c86 := F.known (f := 86) (fn := Fn.ef86) (by simp [apartFns]) n h1 he rfl
  have hlt := get4_lt hb1
  generalize hq : get4 (x.take 4).1 = q at *
  have hw : IntKind.i64.wrap (q : Int) = q := IntWalk.i64_in _ (by omega)
  have g1' := g1
  simp only [lCells] at g1'
  have hy : x.text = Lf.take ⟨(x.take 4).2.bytes, (x.take 4).2.bad || decide (2048 < q)⟩ q := by simp only [Lf.text, hq]
  have hput : ∀ b : Bool, (h1.put 0 (.cells [.str (x.take 4).2.bytes, .bool b] 69 0 0)).get 0 = some (lCells ⟨(x.take 4).2.bytes, b⟩) := fun b => by rw [H.get_put, if_pos rfl]; rfl
  obtain ⟨h2, r2, g2, s2, k2⟩ := take_run (C := C) (callN C n) n ⟨(x.take 4).2.bytes, (x.take 4).2.bad || decide (2048 < q)⟩ q _ (hput _)
  rw [hy]
  refine ⟨h2, ?_, g2, by rw [s2]; simpa using s1, fun k k0 => by rw [k2 k k0, H.get_put, if_neg k0, k1 k k0]⟩
  rw [body_eq _ _ _ _ _ _ (by simp [Fn.ef43])]
  cases hbad : (x.take 4).2.bad with
  | true =>
    rw [hbad] at g1' r2
    simp only [Bool.true_or] at r2
    simp [Fn.ef43, code_seq, code_region, code_block, ops_cons, ops_nil, runOp, simpleOp, R.bind_ok, args1, args2, env_set, put_none, opd_tmp, opd_const, gs, V.cells?, andThen_normal, andThen_ret, andThen_exit, atEnd_normal, atEnd_ret, atEnd_exit, readAt, writeAt, H.get_push, H.get_put, H.size_push, H.size_put, new_size, nbeq, nble, nblt, o2r, mkVal, fillP, setL, cut, V.okCell, binop, unop, code_cond, code_skip, code_ret, code_exit, leave_ret, leave_normal, resultsOf, resultOf, asNat, optNat, code_draw, draw_cons, draw_nil, drawn_ok, drawEnd_ok, back_get, back_size, back_mark, norm_get, norm_size, norm_mark, norm_wr, ok_all, pairOk, wrOk, apartOk, footOf, foot, H.wr_put, H.wr_push, H.mark_put, H.mark_push, sliceCells, lenV, back_norm, back_norm_push, back_norm_put, ops_guard, c85, r1, c86, g1', hw, r2]
  | false =>
    rw [hbad] at g1' r2
    simp only [Bool.false_or] at r2
    by_cases hbig : 2048 < q
    · have hbig' : (2048 : Int) < (q : Int) := by omega
      rw [decide_eq_true hbig] at r2
      simp [Fn.ef43, code_seq, code_region, code_block, ops_cons, ops_nil, runOp, simpleOp, R.bind_ok, args1, args2, env_set, put_none, opd_tmp, opd_const, gs, V.cells?, andThen_normal, andThen_ret, andThen_exit, atEnd_normal, atEnd_ret, atEnd_exit, readAt, writeAt, H.get_push, H.get_put, H.size_push, H.size_put, new_size, nbeq, nble, nblt, o2r, mkVal, fillP, setL, cut, V.okCell, binop, unop, code_cond, code_skip, code_ret, code_exit, leave_ret, leave_normal, resultsOf, resultOf, asNat, optNat, code_draw, draw_cons, draw_nil, drawn_ok, drawEnd_ok, back_get, back_size, back_mark, norm_get, norm_size, norm_mark, norm_wr, ok_all, pairOk, wrOk, apartOk, footOf, foot, H.wr_put, H.wr_push, H.mark_put, H.mark_push, sliceCells, lenV, back_norm, back_norm_push, back_norm_put, ops_guard, c85, r1, c86, g1', hw, r2, hbig, hbig']
    · have hbig' : ¬ (2048 : Int) < (q : Int) := by omega
      rw [decide_eq_false hbig] at r2
      simp [Fn.ef43, code_seq, code_region, code_block, ops_cons, ops_nil, runOp, simpleOp, R.bind_ok, args1, args2, env_set, put_none, opd_tmp, opd_const, gs, V.cells?, andThen_normal, andThen_ret, andThen_exit, atEnd_normal, atEnd_ret, atEnd_exit, readAt, writeAt, H.get_push, H.get_put, H.size_push, H.size_put, new_size, nbeq, nble, nblt, o2r, mkVal, fillP, setL, cut, V.okCell, binop, unop, code_cond, code_skip, code_ret, code_exit, leave_ret, leave_normal, resultsOf, resultOf, asNat, optNat, code_draw, draw_cons, draw_nil, drawn_ok, drawEnd_ok, back_get, back_size, back_mark, norm_get, norm_size, norm_mark, norm_wr, ok_all, pairOk, wrOk, apartOk, footOf, foot, H.wr_put, H.wr_push, H.mark_put, H.mark_push, sliceCells, lenV, back_norm, back_norm_push, back_norm_put, ops_guard, c85, r1, c86, g1', hw, r2, hbig, hbig']
end
end Go.E

namespace Go.E
open Pk
set_option maxRecDepth 10000

theorem byte_bytes {x : Lf} (hb : Bytes x.bytes) : Bytes x.byte.2.bytes := by
  unfold Lf.byte
  split
  · exact (take_bytes hb).2
  · exact (take_bytes hb).2
theorem text_bytes {x : Lf} (hb : Bytes x.bytes) : Bytes x.text.2.bytes := by
  simp only [Lf.text]
  exact (take_bytes (x := ⟨(x.take 4).2.bytes, (x.take 4).2.bad || decide (2048 < get4 (x.take 4).1)⟩) (n := get4 (x.take 4).1) (take_bytes hb).2).2

/-- the list that has been read so far -/
inductive Out (h : H) : V → List Ch → Prop
  | nil : Out h .snil []
  | some (B : Nat) (l : List Ch) (h0 : B ≠ 0) (hs : B < h.size) (hl : l ≠ []) (hg : h.get B = some (.cells (encs l) 35 1 0)) : Out h (.sl B 0 l.length l.length 5 (l.length * 5) false) l

theorem append_ch {h : H} {v : V} {l : List Ch} (c : Ch) (ho : Out h v l) (hb : l.length ≤ 1000) (h1 : 1 ≤ h.size) :
    ∃ v' h', appendE h 35 5 72 (enc c) 1 v = .ok v' h' ∧ Out h' v' (l ++ [c]) ∧ h'.get 0 = h.get 0 ∧ h.size ≤ h'.size := by
  have hok : (enc c).all V.okCell = true := rfl
  cases ho with
  | nil =>
    refine ⟨_, _, rfl, ?_, ?_, by simp⟩
    · refine .some h.size [c] (by omega) (by simp) (by simp) ?_
      rw [H.get_push, if_pos rfl]
      rfl
    · rw [H.get_push, if_neg (by omega)]
  | some B l h0 hs hl hg =>
    have hn : ¬ (l.length + 1 ≤ l.length) := by omega
    have hr : (l.length + 1) * 72 ≤ 1099511627776 := by omega
    have ht : (encs l).take (l.length * 5) = encs l := List.take_of_length_le (by rw [encs_length]; exact Nat.le_refl _)
    have he : encs l ++ enc c = encs (l ++ [c]) := by simp [encs]
    have e : appendE h 35 5 72 (enc c) 1 (.sl B 0 l.length l.length 5 (l.length * 5) false) = .ok (.sl B 0 (l ++ [c]).length (l ++ [c]).length 5 ((l ++ [c]).length * 5) false) (h.put B (.cells (encs (l ++ [c])) 35 1 0)) := by
      simp [appendE, nbeq, nble, nblt, hok, roomy, hn, hr, hg, encs_length, ht, he, enc_length]
    refine ⟨_, _, e, ?_, by rw [H.get_put, if_neg (Ne.symm h0)], by simp⟩
    exact .some B (l ++ [c]) h0 (by simpa using hs) (by simp) (by rw [H.get_put, if_pos rfl])

theorem Out.frame {h h' : H} {v : V} {l : List Ch} (ho : Out h v l) (hf : ∀ k, k ≠ 0 → k < h.size → h'.get k = h.get k) (hs : h.size ≤ h'.size) : Out h' v l := by
  cases ho with
  | nil => exact .nil
  | some B l h0 hs' hl hg => exact .some B l h0 (by omega) hl (by rw [hf B h0 hs']; exact hg)

theorem setL_enc (c : Ch) : setL [.int .u8 0, .str [], .str [], .str [], .str []] 0 (enc c) = enc c := rfl
theorem cut_enc0 (c : Ch) : cut 5 (enc c) = some (enc c) := rfl

section
variable {C : Ctx}

theorem change_step (F : Fns C) (hk17 : ∀ c : Ch, C.memo 17 [.agg (enc c)] = some (.bool (right c))) (hk86 : ∀ s : List Nat, Bytes s → s = [] ∨ s.length = 4 → ∃ e : Int, C.memo 86 [.str s] = some (.tup [.int .u32 (get4 s), .int .i64 e]))
    (n fuel m : Nat) (env : Env) (h : H) (x : Lf) (v : V) (l : List Ch) (hb : Bytes x.bytes) (hbad : x.bad = false) (hg : h.get 0 = some (lCells x)) (hs : 1 ≤ h.size) (ho : Out h v l) (hl : l.length ≤ 1000) (hm : m < 256)
    (e0 : env.get (ix 0) = .ptr 0 0 2) (e3 : env.get (ix 3) = v) (e4 : env.get (ix 4) = .int .u8 (m + 1 : Nat)) :
    ∃ env' h' v', runCode C (callN C (n + 8)) (fuel + 5) (loopIn Fn.ef22) env h = .ok (.normal, env') h' ∧ h'.get 0 = some (lCells x.change.2) ∧ 1 ≤ h'.size ∧ Out h' v' (l ++ [x.change.1]) ∧
      env'.get (ix 0) = .ptr 0 0 2 ∧ env'.get (ix 3) = v' ∧ env'.get (ix 4) = .int .u8 m := by
  have c42 := fun args h => F.call (f := 42) (fn := Fn.ef42) (by simp [plainFns]) (n + 7) args h
  have c43 := fun args h => F.call (f := 43) (fn := Fn.ef43) (by simp [plainFns]) (n + 7) args h
  have c13 := fun args h => F.call (f := 13) (fn := Fn.ef13) (by simp [plainFns]) (n + 7) args h
  have hwm : IntKind.u8.wrap (((m + 1 : Nat) : Int) - 1) = m := by
    rw [show ((m + 1 : Nat) : Int) - 1 = m by omega]
    exact IntWalk.u8_in _ (by omega)
  have hpos : (0 : Int) < ((m + 1 : Nat) : Int) := by omega
  -- the kind
  obtain ⟨h1, r1, g1, s1, k1⟩ := lbyte_run F (n + 6) (n + 7) x h hg
  have B1 := byte_bytes hb
  -- the change's own variable, its texts' places
  have z0 : ¬ 0 = h1.size := by omega
  have a0 : ((h1.push (.cells [.int .u8 0, .str [], .str [], .str [], .str []] 35 0 0)).put h1.size (.cells [.int .u8 x.byte.1, .str [], .str [], .str [], .str []] 35 0 0)).get 0 = some (lCells x.byte.2) := by
    rw [H.get_put, if_neg z0, H.get_push, if_neg z0]; exact g1
  have aK : ((h1.push (.cells [.int .u8 0, .str [], .str [], .str [], .str []] 35 0 0)).put h1.size (.cells [.int .u8 x.byte.1, .str [], .str [], .str [], .str []] 35 0 0)).get h1.size = some (.cells [.int .u8 x.byte.1, .str [], .str [], .str [], .str []] 35 0 0) := by
    rw [H.get_put, if_pos rfl]
  have aS : ((h1.push (.cells [.int .u8 0, .str [], .str [], .str [], .str []] 35 0 0)).put h1.size (.cells [.int .u8 x.byte.1, .str [], .str [], .str [], .str []] 35 0 0)).size = h1.size + 1 := by simp
  have aF : ∀ k, k < h1.size → ((h1.push (.cells [.int .u8 0, .str [], .str [], .str [], .str []] 35 0 0)).put h1.size (.cells [.int .u8 x.byte.1, .str [], .str [], .str [], .str []] 35 0 0)).get k = h1.get k := fun k hk => by
    rw [H.get_put, if_neg (by omega), H.get_push, if_neg (by omega)]
  generalize hA : (h1.push (.cells [.int .u8 0, .str [], .str [], .str [], .str []] 35 0 0)).put h1.size (.cells [.int .u8 x.byte.1, .str [], .str [], .str [], .str []] 35 0 0) = hhA at a0 aK aS aF
  have tS : (hhA.push (.cells [.ptr h1.size 1 5, .ptr h1.size 2 5, .ptr h1.size 3 5, .ptr h1.size 4 5] 50 0 0)).size = h1.size + 2 := by simp [aS]
  have t0 : (hhA.push (.cells [.ptr h1.size 1 5, .ptr h1.size 2 5, .ptr h1.size 3 5, .ptr h1.size 4 5] 50 0 0)).get 0 = some (lCells x.byte.2) := by rw [H.get_push, if_neg (by omega)]; exact a0
  have tK : (hhA.push (.cells [.ptr h1.size 1 5, .ptr h1.size 2 5, .ptr h1.size 3 5, .ptr h1.size 4 5] 50 0 0)).get h1.size = some (.cells [.int .u8 x.byte.1, .str [], .str [], .str [], .str []] 35 0 0) := by rw [H.get_push, if_neg (by omega)]; exact aK
  have tT : (hhA.push (.cells [.ptr h1.size 1 5, .ptr h1.size 2 5, .ptr h1.size 3 5, .ptr h1.size 4 5] 50 0 0)).get (h1.size + 1) = some (.cells [.ptr h1.size 1 5, .ptr h1.size 2 5, .ptr h1.size 3 5, .ptr h1.size 4 5] 50 0 0) := by rw [H.get_push, if_pos aS.symm]
  have tF : ∀ k, k < h1.size → (hhA.push (.cells [.ptr h1.size 1 5, .ptr h1.size 2 5, .ptr h1.size 3 5, .ptr h1.size 4 5] 50 0 0)).get k = h1.get k := fun k hk => by rw [H.get_push, if_neg (by omega)]; exact aF k hk
  have hT13 : ∀ f, body C (callN C (n + 7)) f Fn.ef13 [.ptr h1.size 0 5] hhA = .ok (.sl (h1.size + 1) 0 4 4 1 4 true) (hhA.push (.cells [.ptr h1.size 1 5, .ptr h1.size 2 5, .ptr h1.size 3 5, .ptr h1.size 4 5] 50 0 0)) := fun f => by
    rw [texts_run, aS]
  generalize hhA.push (.cells [.ptr h1.size 1 5, .ptr h1.size 2 5, .ptr h1.size 3 5, .ptr h1.size 4 5] 50 0 0) = hhB at tS t0 tK tT tF hT13
  -- one text, and its place written
  have one : ∀ (hh : H) (y : Lf) (cs : List V) (i : Nat), hh.get 0 = some (lCells y) → Bytes y.bytes → hh.get h1.size = some (.cells cs 35 0 0) → hh.size = h1.size + 2 → (∀ k, k ≠ 0 → k < h1.size → hh.get k = h1.get k) → hh.get (h1.size + 1) = hhB.get (h1.size + 1) →
      ∃ hh', body C (callN C (n + 7)) (n + 7) Fn.ef43 [.ptr 0 0 2] hh = .ok (.str y.text.1) hh' ∧ hh'.get h1.size = some (.cells cs 35 0 0) ∧ ∀ cs', (hh'.put h1.size (.cells cs' 35 0 0)).get 0 = some (lCells y.text.2) ∧ (hh'.put h1.size (.cells cs' 35 0 0)).get h1.size = some (.cells cs' 35 0 0) ∧
        (hh'.put h1.size (.cells cs' 35 0 0)).size = h1.size + 2 ∧ (∀ k, k ≠ 0 → k < h1.size → (hh'.put h1.size (.cells cs' 35 0 0)).get k = h1.get k) ∧ (hh'.put h1.size (.cells cs' 35 0 0)).get (h1.size + 1) = hhB.get (h1.size + 1) := by
    intro hh y cs i q0 qb qK qS qF qT
    obtain ⟨hh', r, p0, pS, pF⟩ := ltext_run F hk86 (n + 6) (n + 7) y hh q0 qb
    refine ⟨hh', r, by rw [pF _ (by omega)]; exact qK, fun cs' => ⟨by rw [H.get_put, if_neg z0]; exact p0, by rw [H.get_put, if_pos rfl], by simp [pS, qS], fun k k0 hk => ?_, ?_⟩⟩
    · rw [H.get_put, if_neg (by omega), pF k k0, qF k k0 hk]
    · rw [H.get_put, if_neg (by omega), pF _ (by omega), qT]
  obtain ⟨hC, r2, m2, n2⟩ := one hhB x.byte.2 _ 1 t0 B1 tK tS (fun k _ hk => tF k hk) rfl
  have n2 := n2 [.int .u8 x.byte.1, .str x.byte.2.text.1, .str [], .str [], .str []]
  generalize hC2 : hC.put h1.size (.cells [.int .u8 x.byte.1, .str x.byte.2.text.1, .str [], .str [], .str []] 35 0 0) = hD at n2
  obtain ⟨d0, dK, dS, dF, dT⟩ := n2
  have B2 := text_bytes B1
  obtain ⟨hE, r3, m3, n3⟩ := one hD _ _ 2 d0 B2 dK dS dF dT
  have n3 := n3 [.int .u8 x.byte.1, .str x.byte.2.text.1, .str x.byte.2.text.2.text.1, .str [], .str []]
  generalize hE2 : hE.put h1.size (.cells [.int .u8 x.byte.1, .str x.byte.2.text.1, .str x.byte.2.text.2.text.1, .str [], .str []] 35 0 0) = hG at n3
  obtain ⟨f0, fK, fS, fF, fT⟩ := n3
  have B3 := text_bytes B2
  obtain ⟨hI, r4, m4, n4⟩ := one hG _ _ 3 f0 B3 fK fS fF fT
  have n4 := n4 [.int .u8 x.byte.1, .str x.byte.2.text.1, .str x.byte.2.text.2.text.1, .str x.byte.2.text.2.text.2.text.1, .str []]
  generalize hI2 : hI.put h1.size (.cells [.int .u8 x.byte.1, .str x.byte.2.text.1, .str x.byte.2.text.2.text.1, .str x.byte.2.text.2.text.2.text.1, .str []] 35 0 0) = hJ at n4
  obtain ⟨i0, iK, iS, iF, iT⟩ := n4
  have B4 := text_bytes B3
  obtain ⟨hL, r5, m5, n5⟩ := one hJ _ _ 4 i0 B4 iK iS iF iT
  have n5 := n5 (enc x.change.1)
  have hch : x.change.1 = ⟨x.byte.1, x.byte.2.text.1, x.byte.2.text.2.text.1, x.byte.2.text.2.text.2.text.1, x.byte.2.text.2.text.2.text.2.text.1⟩ := rfl
  have hx2 : x.change.2 = ⟨x.byte.2.text.2.text.2.text.2.text.2.bytes, x.byte.2.text.2.text.2.text.2.text.2.bad || !right x.change.1⟩ := rfl
  have henc : enc x.change.1 = [.int .u8 x.byte.1, .str x.byte.2.text.1, .str x.byte.2.text.2.text.1, .str x.byte.2.text.2.text.2.text.1, .str x.byte.2.text.2.text.2.text.2.text.1] := rfl
  generalize hL2 : hL.put h1.size (.cells (enc x.change.1) 35 0 0) = hM at n5
  obtain ⟨p0, pK, pS, pF, pT⟩ := n5
  have c17 := fun hh => right_fact F hk17 (n + 7) x.change.1 hh
  generalize hz : x.byte.2.text.2.text.2.text.2.text.2 = z at *
  -- is it right?
  have q0 : ∀ b : Bool, (hM.put 0 (.cells [.str z.bytes, .bool b] 69 0 0)).get 0 = some (lCells ⟨z.bytes, b⟩) := fun b => by rw [H.get_put, if_pos rfl]; rfl
  have qK : ∀ b : Bool, (hM.put 0 (.cells [.str z.bytes, .bool b] 69 0 0)).get h1.size = some (.cells (enc x.change.1) 35 0 0) := fun b => by rw [H.get_put, if_neg (by omega)]; exact pK
  have qS : ∀ b : Bool, (hM.put 0 (.cells [.str z.bytes, .bool b] 69 0 0)).size = h1.size + 2 := fun b => by simp [pS]
  have qO : ∀ b : Bool, Out ((hM.put 0 (.cells [.str z.bytes, .bool b] 69 0 0)).push (.cells (enc x.change.1) 35 0 0)) v l := fun b => ho.frame (fun k k0 hk => by
    rw [H.get_push, if_neg (by rw [qS]; omega), H.get_put, if_neg k0, pF k k0 (by omega), k1 k k0]) (by simp [pS]; omega)
  have qA := fun b => append_ch x.change.1 (qO b) hl (by simp)
  have hL3 : hL.put h1.size (.cells [.int .u8 x.byte.1, .str x.byte.2.text.1, .str x.byte.2.text.2.text.1, .str x.byte.2.text.2.text.2.text.1, .str x.byte.2.text.2.text.2.text.2.text.1] 35 0 0) = hM := by rw [← henc]; exact hL2
  have p0' := p0
  have g0' := hg
  simp only [lCells] at p0' g0'
  rw [hbad] at g0'
  have w0 : IntKind.i64.wrap (0 + 1) = 1 := rfl
  have w1 : IntKind.i64.wrap (1 + 1) = 2 := rfl
  have w2 : IntKind.i64.wrap (2 + 1) = 3 := rfl
  have w3 : IntKind.i64.wrap (3 + 1) = 4 := rfl
  simp only [Int.reduceAdd] at w0 w1 w2 w3
  clear one
  have hwm' : IntKind.u8.wrap (m : Int) = m := IntWalk.u8_in _ (by omega)
  have z1 : ¬ h1.size = 0 := by omega
  cases hzb : z.bad with
  | true =>
    obtain ⟨v', h', e, O, k0, sz⟩ := qA true
    rw [hzb] at p0'
    have H : ∃ env', runCode C (callN C (n + 8)) (fuel + 5) (loopIn Fn.ef22) env h = .ok (.normal, env') h' ∧ env'.get (ix 0) = .ptr 0 0 2 ∧ env'.get (ix 3) = v' ∧ env'.get (ix 4) = .int .u8 m := by
      simp [loopIn, loopOf, Option.getD_some, Option.getD_none, Option.or_some, Option.none_or, Option.some_or, Fn.ef22, code_seq, code_region, code_block, ops_cons, ops_nil, runOp, simpleOp, R.bind_ok, args1, args2, env_set, put_none, opd_tmp, opd_const, gs, V.cells?, andThen_normal, andThen_ret, andThen_exit, atEnd_normal, atEnd_ret, atEnd_exit, readAt, writeAt, H.get_push, H.get_put, H.size_push, H.size_put, new_size, nbeq, nble, nblt, o2r, mkVal, fillP, setL, cut, V.okCell, binop, unop, code_cond, code_skip, code_ret, code_exit, leave_ret, leave_normal, resultsOf, resultOf, asNat, optNat, code_draw, draw_cons, draw_nil, drawn_ok, drawEnd_ok, back_get, back_size, back_mark, norm_get, norm_size, norm_mark, norm_wr, ok_all, pairOk, wrOk, apartOk, footOf, foot, H.wr_put, H.wr_push, H.mark_put, H.mark_push, sliceCells, lenV, back_norm, back_norm_push, back_norm_put, ops_guard, code_loop, iter_succ, c42, c43, c13, e0, e3, e4, g0', hpos, hwm, r1, hA, aS, hT13, tT, tK, r2, m2, hC2, dT, dK, r3, m3, hE2, fT, fK, r4, m4, hI2, iT, iK, r5, m5, hL3, p0', pK, pS, cut_enc0, setL_enc, enc_length, repl, e, w0, w1, w2, w3, z1, hwm']
      trace_state
    obtain ⟨env', E⟩ := H
    exact ⟨env', h', v', E.1, by rw [k0, H.get_push, if_neg (by rw [qS]; omega), q0, hx2, hzb]; rfl, by simp [pS] at sz; omega, O, E.2⟩
  | false =>
    obtain ⟨v', h', e, O, k0, sz⟩ := qA (!right x.change.1)
    rw [hzb] at p0'
    have H : ∃ env', runCode C (callN C (n + 8)) (fuel + 5) (loopIn Fn.ef22) env h = .ok (.normal, env') h' ∧ env'.get (ix 0) = .ptr 0 0 2 ∧ env'.get (ix 3) = v' ∧ env'.get (ix 4) = .int .u8 m := by
      simp [loopIn, loopOf, Option.getD_some, Option.getD_none, Option.or_some, Option.none_or, Option.some_or, Fn.ef22, code_seq, code_region, code_block, ops_cons, ops_nil, runOp, simpleOp, R.bind_ok, args1, args2, env_set, put_none, opd_tmp, opd_const, gs, V.cells?, andThen_normal, andThen_ret, andThen_exit, atEnd_normal, atEnd_ret, atEnd_exit, readAt, writeAt, H.get_push, H.get_put, H.size_push, H.size_put, new_size, nbeq, nble, nblt, o2r, mkVal, fillP, setL, cut, V.okCell, binop, unop, code_cond, code_skip, code_ret, code_exit, leave_ret, leave_normal, resultsOf, resultOf, asNat, optNat, code_draw, draw_cons, draw_nil, drawn_ok, drawEnd_ok, back_get, back_size, back_mark, norm_get, norm_size, norm_mark, norm_wr, ok_all, pairOk, wrOk, apartOk, footOf, foot, H.wr_put, H.wr_push, H.mark_put, H.mark_push, sliceCells, lenV, back_norm, back_norm_push, back_norm_put, ops_guard, code_loop, iter_succ, c42, c43, c13, e0, e3, e4, g0', hpos, hwm, r1, hA, aS, hT13, tT, tK, r2, m2, hC2, dT, dK, r3, m3, hE2, fT, fK, r4, m4, hI2, iT, iK, r5, m5, hL3, p0', pK, c17, pS, cut_enc0, setL_enc, enc_length, repl, e, w0, w1, w2, w3, z1, hwm']
    obtain ⟨env', E⟩ := H
    exact ⟨env', h', v', E.1, by rw [k0, H.get_push, if_neg (by rw [qS]; omega), q0, hx2, hzb]; rfl, by simp [pS] at sz; omega, O, E.2⟩
end
end Go.E

namespace Go.E
open Pk
set_option maxRecDepth 10000

theorem byte_lt {x : Lf} (hb : Bytes x.bytes) : x.byte.1 < 256 := by
  unfold Lf.byte
  split
  · simp
  · have h := (take_bytes (n := 1) hb).1
    cases hs : (x.take 1).1 with
    | nil => simp
    | cons a r => simpa using h a (by rw [hs]; simp)

theorem change_bytes {x : Lf} (hb : Bytes x.bytes) : Bytes x.change.2.bytes := text_bytes (text_bytes (text_bytes (text_bytes (byte_bytes hb))))

section
variable {C : Ctx}

theorem changes_loop (F : Fns C) (hk17 : ∀ c : Ch, C.memo 17 [.agg (enc c)] = some (.bool (right c))) (hk86 : ∀ s : List Nat, Bytes s → s = [] ∨ s.length = 4 → ∃ e : Int, C.memo 86 [.str s] = some (.tup [.int .u32 (get4 s), .int .i64 e])) (n fuel : Nat) :
    ∀ (m : Nat) (k : Nat) (x : Lf) (env : Env) (h : H) (v : V) (l : List Ch), Bytes x.bytes → h.get 0 = some (lCells x) → 1 ≤ h.size → Out h v l → l.length + m ≤ 1000 → m < 256 → env.get (ix 0) = .ptr 0 0 2 → env.get (ix 3) = v → env.get (ix 4) = .int .u8 m → m < k →
      ∃ env' h' v', iter (fun env h => runCode C (callN C (n + 8)) (fuel + 5) (loopIn Fn.ef22) env h) k env h = .ok (.exit 0, env') h' ∧ h'.get 0 = some (lCells (Lf.changes m x).2) ∧ Out h' v' (l ++ (Lf.changes m x).1) ∧ env'.get (ix 3) = v'
  | _, 0, _, _, _, _, _, _, _, _, _, _, _, _, _, _, hk => absurd hk (by omega)
  | 0, k + 1, x, env, h, v, l, hb, hg, hs, ho, hl, hm, e0, e3, e4, _ => by
    rw [iter_succ]
    simp only [Lf.changes, List.append_nil]
    simp only [Int.natCast_zero] at e4
    simp [loopIn, loopOf, Option.getD_some, Option.getD_none, Option.or_some, Option.none_or, Option.some_or, Fn.ef22, code_seq, code_region, code_block, ops_cons, ops_nil, runOp, simpleOp, R.bind_ok, args1, args2, env_set, put_none, opd_tmp, opd_const, gs, V.cells?, andThen_normal, andThen_ret, andThen_exit, atEnd_normal, atEnd_ret, atEnd_exit, readAt, writeAt, H.get_push, H.get_put, H.size_push, H.size_put, new_size, nbeq, nble, nblt, o2r, mkVal, fillP, setL, cut, V.okCell, binop, unop, code_cond, code_skip, code_ret, code_exit, leave_ret, leave_normal, resultsOf, resultOf, asNat, optNat, code_draw, draw_cons, draw_nil, drawn_ok, drawEnd_ok, back_get, back_size, back_mark, norm_get, norm_size, norm_mark, norm_wr, ok_all, pairOk, wrOk, apartOk, footOf, foot, H.wr_put, H.wr_push, H.mark_put, H.mark_push, sliceCells, lenV, back_norm, back_norm_push, back_norm_put, ops_guard, e0, e3, e4, hg, ho, and_assoc]
  | m + 1, k + 1, x, env, h, v, l, hb, hg, hs, ho, hl, hm, e0, e3, e4, hk => by
    cases hbad : x.bad with
    | true =>
      have e : Lf.changes (m + 1) x = ([], x) := by simp [Lf.changes, hbad]
      rw [e, iter_succ]
      have g0 := hg
      simp only [lCells, hbad] at g0
      have hpos : (0 : Int) < ((m + 1 : Nat) : Int) := by omega
      simp [loopIn, loopOf, Option.getD_some, Option.getD_none, Option.or_some, Option.none_or, Option.some_or, Fn.ef22, code_seq, code_region, code_block, ops_cons, ops_nil, runOp, simpleOp, R.bind_ok, args1, args2, env_set, put_none, opd_tmp, opd_const, gs, V.cells?, andThen_normal, andThen_ret, andThen_exit, atEnd_normal, atEnd_ret, atEnd_exit, readAt, writeAt, H.get_push, H.get_put, H.size_push, H.size_put, new_size, nbeq, nble, nblt, o2r, mkVal, fillP, setL, cut, V.okCell, binop, unop, code_cond, code_skip, code_ret, code_exit, leave_ret, leave_normal, resultsOf, resultOf, asNat, optNat, code_draw, draw_cons, draw_nil, drawn_ok, drawEnd_ok, back_get, back_size, back_mark, norm_get, norm_size, norm_mark, norm_wr, ok_all, pairOk, wrOk, apartOk, footOf, foot, H.wr_put, H.wr_push, H.mark_put, H.mark_push, sliceCells, lenV, back_norm, back_norm_push, back_norm_put, ops_guard, e0, e3, e4, g0, ho, hpos, and_assoc, lCells, hbad]
    | false =>
      have e : Lf.changes (m + 1) x = (x.change.1 :: (Lf.changes m x.change.2).1, (Lf.changes m x.change.2).2) := by simp [Lf.changes, hbad]
      obtain ⟨env', h', v', r, g', s', o', k0, k3, k4⟩ := change_step F hk17 hk86 n fuel m env h x v l hb hbad hg hs ho (by omega) (by omega) e0 e3 e4
      obtain ⟨env'', h'', v'', r', g'', o'', k3'⟩ := changes_loop F hk17 hk86 n fuel m k x.change.2 env' h' v' (l ++ [x.change.1]) (change_bytes hb) g' s' o' (by simp; omega) (by omega) k0 k3 k4 (by omega)
      refine ⟨env'', h'', v'', ?_, by rw [e]; exact g'', ?_, k3'⟩
      · rw [iter_succ, r, andThen_normal]
        exact r'
      · rw [e]
        simpa using o''

theorem lchanges_run (F : Fns C) (hk17 : ∀ c : Ch, C.memo 17 [.agg (enc c)] = some (.bool (right c))) (hk86 : ∀ s : List Nat, Bytes s → s = [] ∨ s.length = 4 → ∃ e : Int, C.memo 86 [.str s] = some (.tup [.int .u32 (get4 s), .int .i64 e]))
    (n fuel : Nat) (x : Lf) (h : H) (hb : Bytes x.bytes) (hg : h.get 0 = some (lCells x)) (hs : 1 ≤ h.size) :
    ∃ h' v', body C (callN C (n + 8)) (fuel + 300) Fn.ef22 [.ptr 0 0 2] h = .ok v' h' ∧ h'.get 0 = some (lCells (Lf.changes x.byte.1 x.byte.2).2) ∧ Out h' v' (Lf.changes x.byte.1 x.byte.2).1 := by
  have c42 := fun args h => F.call (f := 42) (fn := Fn.ef42) (by simp [plainFns]) (n + 7) args h
  obtain ⟨h1, r1, g1, s1, k1⟩ := lbyte_run F (n + 6) (n + 7) x h hg
  have hlt := byte_lt hb
  rw [body_eq _ _ _ _ _ _ (by simp [Fn.ef22])]
  have main : ∀ e0 : Env, e0.get (ix 0) = .ptr 0 0 2 → e0.get (ix 3) = .snil → e0.get (ix 4) = .int .u8 x.byte.1 →
      ∃ h' v', leave [.tmp (ix 2)] (andThen (atEnd 0 (runCode C (callN C (n + 8)) (fuel + 300) (.loop (loopIn Fn.ef22)) e0 h1)) (runCode C (callN C (n + 8)) (fuel + 300) (.seq (.region [
        ⟨(some (ix 51)), .move (.tmp (ix 3)), none⟩,
        ⟨(some (ix 2)), .move (.tmp (ix 51)), none⟩]) .ret))) = .ok v' h' ∧ h'.get 0 = some (lCells (Lf.changes x.byte.1 x.byte.2).2) ∧ Out h' v' (Lf.changes x.byte.1 x.byte.2).1 := by
    intro e0 q0 q3 q4
    obtain ⟨env', h', v', r, g, o, k3⟩ := changes_loop F hk17 hk86 n (fuel + 295) x.byte.1 (fuel + 300) x.byte.2 e0 h1 .snil [] (byte_bytes hb) g1 (by omega) .nil (by simp; omega) hlt q0 q3 q4 (by omega)
    refine ⟨h', v', ?_, g, o⟩
    rw [code_loop, r]
    simp [code_seq, code_region, code_block, ops_cons, ops_nil, runOp, simpleOp, R.bind_ok, args1, args2, env_set, put_none, opd_tmp, opd_const, gs, V.cells?, andThen_normal, andThen_ret, andThen_exit, atEnd_normal, atEnd_ret, atEnd_exit, readAt, writeAt, H.get_push, H.get_put, H.size_push, H.size_put, new_size, nbeq, nble, nblt, o2r, mkVal, fillP, setL, cut, V.okCell, binop, unop, code_cond, code_skip, code_ret, code_exit, leave_ret, leave_normal, resultsOf, resultOf, asNat, optNat, code_draw, draw_cons, draw_nil, drawn_ok, drawEnd_ok, back_get, back_size, back_mark, norm_get, norm_size, norm_mark, norm_wr, ok_all, pairOk, wrOk, apartOk, footOf, foot, H.wr_put, H.wr_push, H.mark_put, H.mark_push, sliceCells, lenV, back_norm, back_norm_push, back_norm_put, k3]
  simp only [loopIn, loopOf, Option.getD_some, Option.getD_none, Option.or_some, Option.none_or, Option.some_or, Fn.ef22] at main
  simp [code_seq, code_region, code_block, ops_cons, ops_nil, runOp, simpleOp, R.bind_ok, args1, args2, env_set, put_none, opd_tmp, opd_const, gs, V.cells?, andThen_normal, andThen_ret, andThen_exit, atEnd_normal, atEnd_ret, atEnd_exit, readAt, writeAt, H.get_push, H.get_put, H.size_push, H.size_put, new_size, nbeq, nble, nblt, o2r, mkVal, fillP, setL, cut, V.okCell, binop, unop, code_cond, code_skip, code_ret, code_exit, leave_ret, leave_normal, resultsOf, resultOf, asNat, optNat, code_draw, draw_cons, draw_nil, drawn_ok, drawEnd_ok, back_get, back_size, back_mark, norm_get, norm_size, norm_mark, norm_wr, ok_all, pairOk, wrOk, apartOk, footOf, foot, H.wr_put, H.wr_push, H.mark_put, H.mark_push, sliceCells, lenV, back_norm, back_norm_push, back_norm_put, Fn.ef22, c42, r1]
  simp only [code_loop] at main
  refine main _ ?_ ?_ ?_ <;> simp [code_seq, code_region, code_block, ops_cons, ops_nil, runOp, simpleOp, R.bind_ok, args1, args2, env_set, put_none, opd_tmp, opd_const, gs, V.cells?, andThen_normal, andThen_ret, andThen_exit, atEnd_normal, atEnd_ret, atEnd_exit, readAt, writeAt, H.get_push, H.get_put, H.size_push, H.size_put, new_size, nbeq, nble, nblt, o2r, mkVal, fillP, setL, cut, V.okCell, binop, unop, code_cond, code_skip, code_ret, code_exit, leave_ret, leave_normal, resultsOf, resultOf, asNat, optNat, code_draw, draw_cons, draw_nil, drawn_ok, drawEnd_ok, back_get, back_size, back_mark, norm_get, norm_size, norm_mark, norm_wr, ok_all, pairOk, wrOk, apartOk, footOf, foot, H.wr_put, H.wr_push, H.mark_put, H.mark_push, sliceCells, lenV, back_norm, back_norm_push, back_norm_put]

def outV (l : List Ch) : V := if l.isEmpty then .snil else slV l false
theorem outV_sl (l : List Ch) : SlOf (outV l) l := by
  cases l with
  | nil => exact .nil
  | cons c l => exact .some _ false

theorem closeds_encs (l : List Ch) : closeds (encs l) = true := by
  induction l with
  | nil => rfl
  | cons c l ih =>
    show closeds (enc c ++ encs l) = true
    simp [enc, closeds, closed, ih]

theorem resolve_out {h : H} {v : V} {l : List Ch} (ho : Out h v l) (e : Int) : ∃ bs, resolve 1000 h (.tup [v, .int .i64 e]) = some (.tup [outV l, .int .i64 e], bs) := by
  cases ho with
  | nil => exact ⟨[], rfl⟩
  | some B l h0 hs hl hg =>
    have hc : cut (l.length * 5) (encs l) = some (encs l) := by
      have := cut_all (encs l)
      rwa [encs_length] at this
    have hr : readAt h B 0 (l.length * 5) = some (encs l) := by simp [readAt, hg, encs_length, nbeq]
    have hout : outV l = slV l false := by
      cases l with
      | nil => exact absurd rfl hl
      | cons => rfl
    have h1 : resolves (996 + 1) h (encs l) = some (encs l, []) := resolves_closed 996 (closeds_encs l)
    have h2 : resolve (997 + 1) h (.sl B 0 l.length l.length 5 (l.length * 5) false) = some (slV l false, [B]) := by
      simp only [resolve, closed, cond_false, hr, hc, h1, Option.bind_eq_bind, Option.bind_some, Option.pure_def, Bool.false_and, slV]
    have h3 : resolves (997 + 1) h [.int .i64 e] = some ([.int .i64 e], []) := resolves_closed 997 rfl
    have h4 : resolves (998 + 1) h [.sl B 0 l.length l.length 5 (l.length * 5) false, .int .i64 e] = some ([slV l false, .int .i64 e], [B]) := by
      have : closeds [.sl B 0 l.length l.length 5 (l.length * 5) false, .int .i64 e] = false := rfl
      rw [resolves, this]
      simp only [cond_false, h2, h3, Option.bind_eq_bind, Option.bind_some, Option.pure_def, List.append_nil]
    refine ⟨[B], ?_⟩
    rw [hout]
    show resolve (999 + 1) h _ = _
    have : closed (.tup [.sl B 0 l.length l.length 5 (l.length * 5) false, .int .i64 e]) = false := rfl
    rw [resolve, this]
    simp only [cond_false, h4, Option.bind_eq_bind, Option.bind_some, Option.pure_def]

/-- what Unpack comes to -/
def unpackV (s : List Nat) : V := match unpack s with
  | some l => .tup [outV l, .int .i64 0]
  | none => .tup [.snil, .int .i64 14]

theorem unpack_run (F : Fns C) (hk17 : ∀ c : Ch, C.memo 17 [.agg (enc c)] = some (.bool (right c))) (hk86 : ∀ s : List Nat, Bytes s → s = [] ∨ s.length = 4 → ∃ e : Int, C.memo 86 [.str s] = some (.tup [.int .u32 (get4 s), .int .i64 e]))
    (n fuel : Nat) (s : List Nat) (hb : Bytes s) : ∃ v h' bs, body C (callN C (n + 301)) fuel Fn.ef6 [.str s] H.new = .ok v h' ∧ resolve 1000 h' v = some (unpackV s, bs) := by
  have c22 := fun args h => F.call (f := 22) (fn := Fn.ef22) (by simp [plainFns]) (n + 300) args h
  have hg : (H.new.push (.cells [.str s, .bool false] 69 0 0)).get 0 = some (lCells ⟨s, false⟩) := by simp [H.get_push, new_size, lCells]
  obtain ⟨h', v', r, g, o⟩ := lchanges_run F hk17 hk86 (n + 292) n ⟨s, false⟩ _ hb hg (by simp [new_size])
  generalize hL : Lf.changes (Lf.byte ⟨s, false⟩).1 (Lf.byte ⟨s, false⟩).2 = L at *
  obtain ⟨l, y⟩ := L
  have g' := g
  simp only [lCells] at g'
  rw [body_eq _ _ _ _ _ _ (by simp [Fn.ef6])]
  cases hbad : y.bad with
  | true =>
    have hu : unpackV s = .tup [.snil, .int .i64 14] := by simp [unpackV, unpack, hL, hbad]
    rw [hbad] at g'
    refine ⟨.tup [.snil, .int .i64 14], h', [], ?_, by rw [hu]; rfl⟩
    simp [Fn.ef6, code_seq, code_region, code_block, ops_cons, ops_nil, runOp, simpleOp, R.bind_ok, args1, args2, env_set, put_none, opd_tmp, opd_const, gs, V.cells?, andThen_normal, andThen_ret, andThen_exit, atEnd_normal, atEnd_ret, atEnd_exit, readAt, writeAt, H.get_push, H.get_put, H.size_push, H.size_put, new_size, nbeq, nble, nblt, o2r, mkVal, fillP, setL, cut, V.okCell, binop, unop, code_cond, code_skip, code_ret, code_exit, leave_ret, leave_normal, resultsOf, resultOf, asNat, optNat, code_draw, draw_cons, draw_nil, drawn_ok, drawEnd_ok, back_get, back_size, back_mark, norm_get, norm_size, norm_mark, norm_wr, ok_all, pairOk, wrOk, apartOk, footOf, foot, H.wr_put, H.wr_push, H.mark_put, H.mark_push, sliceCells, lenV, back_norm, back_norm_push, back_norm_put, ops_guard, c22, r, g']
  | false =>
    rw [hbad] at g'
    cases hy : y.bytes with
    | nil =>
      have hu : unpackV s = .tup [outV l, .int .i64 0] := by simp [unpackV, unpack, hL, hbad, hy]
      obtain ⟨bs, hres⟩ := resolve_out o 0
      rw [hy] at g'
      refine ⟨.tup [v', .int .i64 0], h', bs, ?_, by rw [hu]; exact hres⟩
      simp [Fn.ef6, code_seq, code_region, code_block, ops_cons, ops_nil, runOp, simpleOp, R.bind_ok, args1, args2, env_set, put_none, opd_tmp, opd_const, gs, V.cells?, andThen_normal, andThen_ret, andThen_exit, atEnd_normal, atEnd_ret, atEnd_exit, readAt, writeAt, H.get_push, H.get_put, H.size_push, H.size_put, new_size, nbeq, nble, nblt, o2r, mkVal, fillP, setL, cut, V.okCell, binop, unop, code_cond, code_skip, code_ret, code_exit, leave_ret, leave_normal, resultsOf, resultOf, asNat, optNat, code_draw, draw_cons, draw_nil, drawn_ok, drawEnd_ok, back_get, back_size, back_mark, norm_get, norm_size, norm_mark, norm_wr, ok_all, pairOk, wrOk, apartOk, footOf, foot, H.wr_put, H.wr_push, H.mark_put, H.mark_push, sliceCells, lenV, back_norm, back_norm_push, back_norm_put, ops_guard, c22, r, g']
    | cons a t =>
      have hu : unpackV s = .tup [.snil, .int .i64 14] := by simp [unpackV, unpack, hL, hbad, hy]
      rw [hy] at g'
      refine ⟨.tup [.snil, .int .i64 14], h', [], ?_, by rw [hu]; rfl⟩
      simp [Fn.ef6, code_seq, code_region, code_block, ops_cons, ops_nil, runOp, simpleOp, R.bind_ok, args1, args2, env_set, put_none, opd_tmp, opd_const, gs, V.cells?, andThen_normal, andThen_ret, andThen_exit, atEnd_normal, atEnd_ret, atEnd_exit, readAt, writeAt, H.get_push, H.get_put, H.size_push, H.size_put, new_size, nbeq, nble, nblt, o2r, mkVal, fillP, setL, cut, V.okCell, binop, unop, code_cond, code_skip, code_ret, code_exit, leave_ret, leave_normal, resultsOf, resultOf, asNat, optNat, code_draw, draw_cons, draw_nil, drawn_ok, drawEnd_ok, back_get, back_size, back_mark, norm_get, norm_size, norm_mark, norm_wr, ok_all, pairOk, wrOk, apartOk, footOf, foot, H.wr_put, H.wr_push, H.mark_put, H.mark_push, sliceCells, lenV, back_norm, back_norm_push, back_norm_put, ops_guard, c22, r, g']
end
end Go.E

namespace Go.E
open Pk
set_option maxRecDepth 10000

def sameCh (c d : Ch) : Bool := ((c.k : Int) == (d.k : Int)) && (c.id == d.id) && (c.text == d.text) && (c.ty == d.ty) && (c.uid == d.uid)
theorem sameCh_iff (c d : Ch) : sameCh c d = true ↔ c = d := by
  cases c; cases d
  simp only [sameCh, Bool.and_eq_true, beq_iff_eq, Int.ofNat_inj, Ch.mk.injEq]
  constructor
  · rintro ⟨⟨⟨⟨h1, h2⟩, h3⟩, h4⟩, h5⟩; exact ⟨h1, h2, h3, h4, h5⟩
  · rintro ⟨h1, h2, h3, h4, h5⟩; exact ⟨⟨⟨⟨h1, h2⟩, h3⟩, h4⟩, h5⟩

theorem eq_enc (c d : Ch) : eqV 20 (.parts [(0, none, .int), (1, none, .str), (2, none, .str), (3, some 2, .parts [(0, none, .str), (1, none, .str)])]) (.agg (enc c)) (.agg (enc d)) = some (sameCh c d) :=
  eq_ch 17 c.k d.k c.id c.text c.ty c.uid d.id d.text d.ty d.uid

/-- two lists held against each other -/
def sameL : List Ch → List Ch → Bool
  | [], [] => true
  | c :: l, d :: m => sameCh c d && sameL l m
  | _, _ => false
theorem sameL_iff : ∀ (l m : List Ch), sameL l m = true ↔ l = m
  | [], [] => by simp [sameL]
  | [], _ :: _ => by simp [sameL]
  | _ :: _, [] => by simp [sameL]
  | c :: l, d :: m => by simp [sameL, sameCh_iff, sameL_iff l m]

section
variable {C : Ctx}

theorem same_loop (call : Call) (F : Nat) (h : H) (ex ex' : Bool) (all all' : List Ch) (hall : all.length < 4611686018427387904) :
    ∀ (suf suf' pre pre' : List Ch) (env : Env) (fuel : Nat), all = pre ++ suf → all' = pre' ++ suf' → pre.length = pre'.length → suf.length = suf'.length → env.get (ix 0) = slV all ex → env.get (ix 1) = slV all' ex' → env.get (ix 12) = .int .i64 all.length → env.get (ix 13) = .int .i64 pre.length → suf.length < fuel →
      ∃ x env', iter (fun env h => runCode C call F (loopIn Fn.ef7) env h) fuel env h = .ok (x, env') h ∧ ((sameL suf suf' = true ∧ x = .exit 0) ∨ (sameL suf suf' = false ∧ x = .ret ∧ env'.get (ix 4) = .bool false))
  | _, _, _, _, _, 0, _, _, _, _, _, _, _, _, hf => absurd hf (by omega)
  | [], c :: _, _, _, _, _ + 1, _, _, _, hs, _, _, _, _, _ => by simp at hs
  | _ :: _, [], _, _, _, _ + 1, _, _, _, hs, _, _, _, _, _ => by simp at hs
  | [], [], pre, pre', env, fuel + 1, ha, ha', hp, hs, h0, h1, h12, h13, hf => by
    have hlt : ¬ (pre.length : Int) < (all.length : Int) := by rw [ha]; simp
    rw [iter_succ]
    simp [loopIn, loopOf, Option.getD_some, Option.getD_none, Option.or_some, Option.none_or, Option.some_or, Fn.ef7, code_seq, code_region, code_block, ops_cons, ops_nil, runOp, simpleOp, R.bind_ok, args1, args2, env_set, put_none, opd_tmp, opd_const, gs, V.cells?, andThen_normal, andThen_ret, andThen_exit, atEnd_normal, atEnd_ret, atEnd_exit, readAt, writeAt, H.get_push, H.get_put, H.size_push, H.size_put, new_size, nbeq, nble, nblt, o2r, mkVal, fillP, setL, cut, V.okCell, binop, unop, code_cond, code_skip, code_ret, code_exit, leave_ret, leave_normal, resultsOf, resultOf, asNat, optNat, code_draw, draw_cons, draw_nil, drawn_ok, drawEnd_ok, back_get, back_size, back_mark, norm_get, norm_size, norm_mark, norm_wr, ok_all, pairOk, wrOk, apartOk, footOf, foot, H.wr_put, H.wr_push, H.mark_put, H.mark_push, sliceCells, lenV, back_norm, back_norm_push, back_norm_put, h12, h13, hlt, sameL]
  | c :: suf, d :: suf', pre, pre', env, fuel + 1, ha, ha', hp, hs, h0, h1, h12, h13, hf => by
    have hlen : all.length = pre.length + suf.length + 1 := by rw [ha]; simp; omega
    have hlen' : all'.length = pre'.length + suf'.length + 1 := by rw [ha']; simp; omega
    simp only [List.length_cons] at hs
    have hlt : (pre.length : Int) < (all.length : Int) := by omega
    have hlt' : pre.length < all.length := by omega
    have hlt'' : pre.length < all'.length := by omega
    have hd : (encs all).drop (pre.length * 5) = enc c ++ encs suf := by rw [ha]; exact encs_drop pre c suf
    have hd' : (encs all').drop (pre.length * 5) = enc d ++ encs suf' := by rw [ha', hp]; exact encs_drop pre' d suf'
    have hne : (encs all).isEmpty = false := by rw [ha]; exact encs_ne pre c suf
    have hne' : (encs all').isEmpty = false := by rw [ha']; exact encs_ne pre' d suf'
    have hw : IntKind.i64.wrap ((pre.length : Int) + 1) = (pre.length : Int) + 1 := IntWalk.i64_in _ (by omega)
    simp only [slV] at h0 h1
    rw [iter_succ]
    have step1 : sameCh c d = false → ∃ env', runCode C call F (loopIn Fn.ef7) env h = .ok (.ret, env') h ∧ env'.get (ix 4) = .bool false := by
      intro hq
      simp [loopIn, loopOf, Option.getD_some, Option.getD_none, Option.or_some, Option.none_or, Option.some_or, Fn.ef7, code_seq, code_region, code_block, ops_cons, ops_nil, runOp, simpleOp, R.bind_ok, args1, args2, env_set, put_none, opd_tmp, opd_const, gs, V.cells?, andThen_normal, andThen_ret, andThen_exit, atEnd_normal, atEnd_ret, atEnd_exit, readAt, writeAt, H.get_push, H.get_put, H.size_push, H.size_put, new_size, nbeq, nble, nblt, o2r, mkVal, fillP, setL, cut, V.okCell, binop, unop, code_cond, code_skip, code_ret, code_exit, leave_ret, leave_normal, resultsOf, resultOf, asNat, optNat, code_draw, draw_cons, draw_nil, drawn_ok, drawEnd_ok, back_get, back_size, back_mark, norm_get, norm_size, norm_mark, norm_wr, ok_all, pairOk, wrOk, apartOk, footOf, foot, H.wr_put, H.wr_push, H.mark_put, H.mark_push, sliceCells, lenV, back_norm, back_norm_push, back_norm_put, h0, h1, h12, h13, hlt, hlt', hlt'', hd, hd', hne, hne', cut_enc, eq_enc, hq]
    have step2 : sameCh c d = true → ∃ env', runCode C call F (loopIn Fn.ef7) env h = .ok (.normal, env') h ∧ env'.get (ix 0) = slV all ex ∧ env'.get (ix 1) = slV all' ex' ∧ env'.get (ix 12) = .int .i64 all.length ∧ env'.get (ix 13) = .int .i64 (pre.length + 1 : Nat) := by
      intro hq
      simp [loopIn, loopOf, Option.getD_some, Option.getD_none, Option.or_some, Option.none_or, Option.some_or, Fn.ef7, code_seq, code_region, code_block, ops_cons, ops_nil, runOp, simpleOp, R.bind_ok, args1, args2, env_set, put_none, opd_tmp, opd_const, gs, V.cells?, andThen_normal, andThen_ret, andThen_exit, atEnd_normal, atEnd_ret, atEnd_exit, readAt, writeAt, H.get_push, H.get_put, H.size_push, H.size_put, new_size, nbeq, nble, nblt, o2r, mkVal, fillP, setL, cut, V.okCell, binop, unop, code_cond, code_skip, code_ret, code_exit, leave_ret, leave_normal, resultsOf, resultOf, asNat, optNat, code_draw, draw_cons, draw_nil, drawn_ok, drawEnd_ok, back_get, back_size, back_mark, norm_get, norm_size, norm_mark, norm_wr, ok_all, pairOk, wrOk, apartOk, footOf, foot, H.wr_put, H.wr_push, H.mark_put, H.mark_push, sliceCells, lenV, back_norm, back_norm_push, back_norm_put, h0, h1, h12, h13, hlt, hlt', hlt'', hd, hd', hne, hne', cut_enc, eq_enc, hq, hw, slV]
    cases hq : sameCh c d with
    | false =>
      obtain ⟨env', e1, e2⟩ := step1 hq
      rw [e1]
      exact ⟨_, env', rfl, .inr ⟨by simp [sameL, hq], rfl, e2⟩⟩
    | true =>
      obtain ⟨env', e1, k0, k1, k12, k13⟩ := step2 hq
      rw [e1]
      obtain ⟨x, env'', e4, e5⟩ := same_loop call F h ex ex' all all' hall suf suf' (pre ++ [c]) (pre' ++ [d]) env' fuel (by rw [ha]; simp) (by rw [ha']; simp) (by simp [hp]) (by omega) k0 k1 k12 (by rw [k13]; simp) (by simp at hf; omega)
      refine ⟨x, env'', ?_, ?_⟩
      · rw [andThen_normal]
        exact e4
      · simpa [sameL, hq] using e5

theorem sameL_len : ∀ (l m : List Ch), l.length ≠ m.length → sameL l m = false
  | [], [], h => absurd rfl h
  | [], _ :: _, _ => rfl
  | _ :: _, [], _ => rfl
  | c :: l, d :: m, h => by
    simp only [sameL, sameL_len l m (by simp at h; exact h), Bool.and_false]

theorem same_run (call : Call) (fuel : Nat) {v u : V} {l m : List Ch} (hv : SlOf v l) (hu : SlOf u m) (hl : l.length < fuel) (hl' : l.length < 4611686018427387904) :
    ∃ h', body C call fuel Fn.ef7 [v, u] H.new = .ok (.bool (sameL l m)) h' := by
  rw [body_eq _ _ _ _ _ _ (by simp [Fn.ef7])]
  by_cases hlen : l.length = m.length
  · have main : ∀ (ex ex' : Bool) (e0 : Env), v = slV l ex → u = slV m ex' → e0.get (ix 0) = slV l ex → e0.get (ix 1) = slV m ex' → e0.get (ix 12) = .int .i64 l.length → e0.get (ix 13) = .int .i64 0 →
        leave [.tmp (ix 4)] (andThen (atEnd 0 (runCode C call fuel (.loop (loopIn Fn.ef7)) e0 H.new)) (runCode C call fuel (.seq (.region [⟨(some (ix 4)), .move (.const (.bool true)), none⟩]) .ret))) = .ok (.bool (sameL l m)) H.new := by
      intro ex ex' e0 _ _ h0 h1 h12 h13
      obtain ⟨x, env', e1, e2⟩ := same_loop (C := C) call fuel H.new ex ex' l m hl' l m [] [] e0 fuel rfl rfl rfl hlen h0 h1 h12 h13 hl
      rw [code_loop, e1]
      rcases e2 with ⟨e2, rfl⟩ | ⟨e2, rfl, e3⟩
      · rw [e2]; simp [code_seq, code_region, code_block, ops_cons, ops_nil, runOp, simpleOp, R.bind_ok, args1, args2, env_set, put_none, opd_tmp, opd_const, gs, V.cells?, andThen_normal, andThen_ret, andThen_exit, atEnd_normal, atEnd_ret, atEnd_exit, readAt, writeAt, H.get_push, H.get_put, H.size_push, H.size_put, new_size, nbeq, nble, nblt, o2r, mkVal, fillP, setL, cut, V.okCell, binop, unop, code_cond, code_skip, code_ret, code_exit, leave_ret, leave_normal, resultsOf, resultOf, asNat, optNat, code_draw, draw_cons, draw_nil, drawn_ok, drawEnd_ok, back_get, back_size, back_mark, norm_get, norm_size, norm_mark, norm_wr, ok_all, pairOk, wrOk, apartOk, footOf, foot, H.wr_put, H.wr_push, H.mark_put, H.mark_push, sliceCells, lenV, back_norm, back_norm_push, back_norm_put]
      · rw [e2]; simp [code_seq, code_region, code_block, ops_cons, ops_nil, runOp, simpleOp, R.bind_ok, args1, args2, env_set, put_none, opd_tmp, opd_const, gs, V.cells?, andThen_normal, andThen_ret, andThen_exit, atEnd_normal, atEnd_ret, atEnd_exit, readAt, writeAt, H.get_push, H.get_put, H.size_push, H.size_put, new_size, nbeq, nble, nblt, o2r, mkVal, fillP, setL, cut, V.okCell, binop, unop, code_cond, code_skip, code_ret, code_exit, leave_ret, leave_normal, resultsOf, resultOf, asNat, optNat, code_draw, draw_cons, draw_nil, drawn_ok, drawEnd_ok, back_get, back_size, back_mark, norm_get, norm_size, norm_mark, norm_wr, ok_all, pairOk, wrOk, apartOk, footOf, foot, H.wr_put, H.wr_push, H.mark_put, H.mark_push, sliceCells, lenV, back_norm, back_norm_push, back_norm_put, e3]
    simp only [loopIn, loopOf, Option.getD_some, Option.getD_none, Option.or_some, Option.none_or, Option.some_or, Fn.ef7] at main
    obtain ⟨f, rfl⟩ : ∃ f, fuel = f + 1 := ⟨fuel - 1, by omega⟩
    cases hv with
    | nil =>
      cases hu with
      | nil => simp [Fn.ef7, code_seq, code_region, code_block, ops_cons, ops_nil, runOp, simpleOp, R.bind_ok, args1, args2, env_set, put_none, opd_tmp, opd_const, gs, V.cells?, andThen_normal, andThen_ret, andThen_exit, atEnd_normal, atEnd_ret, atEnd_exit, readAt, writeAt, H.get_push, H.get_put, H.size_push, H.size_put, new_size, nbeq, nble, nblt, o2r, mkVal, fillP, setL, cut, V.okCell, binop, unop, code_cond, code_skip, code_ret, code_exit, leave_ret, leave_normal, resultsOf, resultOf, asNat, optNat, code_draw, draw_cons, draw_nil, drawn_ok, drawEnd_ok, back_get, back_size, back_mark, norm_get, norm_size, norm_mark, norm_wr, ok_all, pairOk, wrOk, apartOk, footOf, foot, H.wr_put, H.wr_push, H.mark_put, H.mark_push, sliceCells, lenV, back_norm, back_norm_push, back_norm_put, code_loop, iter_succ, sameL]
      | some m ex' =>
        have hm : m = [] := List.eq_nil_of_length_eq_zero (by simpa using hlen.symm)
        subst hm
        simp [Fn.ef7, code_seq, code_region, code_block, ops_cons, ops_nil, runOp, simpleOp, R.bind_ok, args1, args2, env_set, put_none, opd_tmp, opd_const, gs, V.cells?, andThen_normal, andThen_ret, andThen_exit, atEnd_normal, atEnd_ret, atEnd_exit, readAt, writeAt, H.get_push, H.get_put, H.size_push, H.size_put, new_size, nbeq, nble, nblt, o2r, mkVal, fillP, setL, cut, V.okCell, binop, unop, code_cond, code_skip, code_ret, code_exit, leave_ret, leave_normal, resultsOf, resultOf, asNat, optNat, code_draw, draw_cons, draw_nil, drawn_ok, drawEnd_ok, back_get, back_size, back_mark, norm_get, norm_size, norm_mark, norm_wr, ok_all, pairOk, wrOk, apartOk, footOf, foot, H.wr_put, H.wr_push, H.mark_put, H.mark_push, sliceCells, lenV, back_norm, back_norm_push, back_norm_put, code_loop, iter_succ, sameL, slV]
    | some l ex =>
      cases hu with
      | nil =>
        have hm : l = [] := List.eq_nil_of_length_eq_zero (by simpa using hlen)
        subst hm
        simp [Fn.ef7, code_seq, code_region, code_block, ops_cons, ops_nil, runOp, simpleOp, R.bind_ok, args1, args2, env_set, put_none, opd_tmp, opd_const, gs, V.cells?, andThen_normal, andThen_ret, andThen_exit, atEnd_normal, atEnd_ret, atEnd_exit, readAt, writeAt, H.get_push, H.get_put, H.size_push, H.size_put, new_size, nbeq, nble, nblt, o2r, mkVal, fillP, setL, cut, V.okCell, binop, unop, code_cond, code_skip, code_ret, code_exit, leave_ret, leave_normal, resultsOf, resultOf, asNat, optNat, code_draw, draw_cons, draw_nil, drawn_ok, drawEnd_ok, back_get, back_size, back_mark, norm_get, norm_size, norm_mark, norm_wr, ok_all, pairOk, wrOk, apartOk, footOf, foot, H.wr_put, H.wr_push, H.mark_put, H.mark_push, sliceCells, lenV, back_norm, back_norm_push, back_norm_put, code_loop, iter_succ, sameL, slV]
      | some m ex' =>
        have main' := fun e0 => main ex ex' e0 rfl rfl
        simp only [slV] at main' ⊢
        have hl2 : (l.length : Int) = m.length := by omega
        refine ⟨H.new, ?_⟩
        simp [Fn.ef7, code_seq, code_region, code_block, ops_cons, ops_nil, runOp, simpleOp, R.bind_ok, args1, args2, env_set, put_none, opd_tmp, opd_const, gs, V.cells?, andThen_normal, andThen_ret, andThen_exit, atEnd_normal, atEnd_ret, atEnd_exit, readAt, writeAt, H.get_push, H.get_put, H.size_push, H.size_put, new_size, nbeq, nble, nblt, o2r, mkVal, fillP, setL, cut, V.okCell, binop, unop, code_cond, code_skip, code_ret, code_exit, leave_ret, leave_normal, resultsOf, resultOf, asNat, optNat, code_draw, draw_cons, draw_nil, drawn_ok, drawEnd_ok, back_get, back_size, back_mark, norm_get, norm_size, norm_mark, norm_wr, ok_all, pairOk, wrOk, apartOk, footOf, foot, H.wr_put, H.wr_push, H.mark_put, H.mark_push, sliceCells, lenV, back_norm, back_norm_push, back_norm_put, hl2]
        rw [← hl2]
        refine main' _ ?_ ?_ ?_ ?_ <;> simp [code_seq, code_region, code_block, ops_cons, ops_nil, runOp, simpleOp, R.bind_ok, args1, args2, env_set, put_none, opd_tmp, opd_const, gs, V.cells?, andThen_normal, andThen_ret, andThen_exit, atEnd_normal, atEnd_ret, atEnd_exit, readAt, writeAt, H.get_push, H.get_put, H.size_push, H.size_put, new_size, nbeq, nble, nblt, o2r, mkVal, fillP, setL, cut, V.okCell, binop, unop, code_cond, code_skip, code_ret, code_exit, leave_ret, leave_normal, resultsOf, resultOf, asNat, optNat, code_draw, draw_cons, draw_nil, drawn_ok, drawEnd_ok, back_get, back_size, back_mark, norm_get, norm_size, norm_mark, norm_wr, ok_all, pairOk, wrOk, apartOk, footOf, foot, H.wr_put, H.wr_push, H.mark_put, H.mark_push, sliceCells, lenV, back_norm, back_norm_push, back_norm_put]
  · have hne : sameL l m = false := sameL_len l m hlen
    rw [hne]
    have hn : ¬ ((l.length : Int) = m.length) := by omega
    cases hv with
    | nil =>
      cases hu with
      | nil => exact absurd rfl hlen
      | some m ex' =>
        simp only [List.length_nil, Int.natCast_zero] at hn
        simp [Fn.ef7, code_seq, code_region, code_block, ops_cons, ops_nil, runOp, simpleOp, R.bind_ok, args1, args2, env_set, put_none, opd_tmp, opd_const, gs, V.cells?, andThen_normal, andThen_ret, andThen_exit, atEnd_normal, atEnd_ret, atEnd_exit, readAt, writeAt, H.get_push, H.get_put, H.size_push, H.size_put, new_size, nbeq, nble, nblt, o2r, mkVal, fillP, setL, cut, V.okCell, binop, unop, code_cond, code_skip, code_ret, code_exit, leave_ret, leave_normal, resultsOf, resultOf, asNat, optNat, code_draw, draw_cons, draw_nil, drawn_ok, drawEnd_ok, back_get, back_size, back_mark, norm_get, norm_size, norm_mark, norm_wr, ok_all, pairOk, wrOk, apartOk, footOf, foot, H.wr_put, H.wr_push, H.mark_put, H.mark_push, sliceCells, lenV, back_norm, back_norm_push, back_norm_put, slV, hn]
    | some l ex =>
      cases hu with
      | nil =>
        have hn2 : l ≠ [] := fun e => hlen (by rw [e])
        simp only [List.length_nil, Int.natCast_zero] at hn
        simp [Fn.ef7, code_seq, code_region, code_block, ops_cons, ops_nil, runOp, simpleOp, R.bind_ok, args1, args2, env_set, put_none, opd_tmp, opd_const, gs, V.cells?, andThen_normal, andThen_ret, andThen_exit, atEnd_normal, atEnd_ret, atEnd_exit, readAt, writeAt, H.get_push, H.get_put, H.size_push, H.size_put, new_size, nbeq, nble, nblt, o2r, mkVal, fillP, setL, cut, V.okCell, binop, unop, code_cond, code_skip, code_ret, code_exit, leave_ret, leave_normal, resultsOf, resultOf, asNat, optNat, code_draw, draw_cons, draw_nil, drawn_ok, drawEnd_ok, back_get, back_size, back_mark, norm_get, norm_size, norm_mark, norm_wr, ok_all, pairOk, wrOk, apartOk, footOf, foot, H.wr_put, H.wr_push, H.mark_put, H.mark_push, sliceCells, lenV, back_norm, back_norm_push, back_norm_put, slV, hn, hn2]
      | some m ex' => simp [Fn.ef7, code_seq, code_region, code_block, ops_cons, ops_nil, runOp, simpleOp, R.bind_ok, args1, args2, env_set, put_none, opd_tmp, opd_const, gs, V.cells?, andThen_normal, andThen_ret, andThen_exit, atEnd_normal, atEnd_ret, atEnd_exit, readAt, writeAt, H.get_push, H.get_put, H.size_push, H.size_put, new_size, nbeq, nble, nblt, o2r, mkVal, fillP, setL, cut, V.okCell, binop, unop, code_cond, code_skip, code_ret, code_exit, leave_ret, leave_normal, resultsOf, resultOf, asNat, optNat, code_draw, draw_cons, draw_nil, drawn_ok, drawEnd_ok, back_get, back_size, back_mark, norm_get, norm_size, norm_mark, norm_wr, ok_all, pairOk, wrOk, apartOk, footOf, foot, H.wr_put, H.wr_push, H.mark_put, H.mark_push, sliceCells, lenV, back_norm, back_norm_push, back_norm_put, slV, hn]
end
end Go.E

namespace Go.E
open Pk
set_option maxRecDepth 10000

theorem packL_length {l : List Ch} (h : good l = true) : (packL l).length ≤ 4194304 := by
  obtain ⟨h1, _, h3⟩ := good_spec h
  have : ∀ m : List Ch, (m.all fun c => !long c) = true → (m.flatMap packCh).length ≤ m.length * 8209 := by
    intro m
    induction m with
    | nil => simp
    | cons c m ih =>
      intro hm
      simp only [List.all_cons, Bool.and_eq_true, Bool.not_eq_true'] at hm
      have h1 := packCh_length c hm.1
      have h2 := ih hm.2
      rw [List.flatMap_cons, List.length_append, List.length_cons]
      omega
  have := this l h3
  simp only [packL, List.length_cons]
  omega

/-- what a change must be for its bytes to be bytes -/
def ChBytes (c : Ch) : Prop := c.k < 256 ∧ Bytes c.id ∧ Bytes c.text ∧ Bytes c.ty ∧ Bytes c.uid

theorem bytes_app {s t : List Nat} (hs : Bytes s) (ht : Bytes t) : Bytes (s ++ t) := fun n hn => (List.mem_append.1 hn).elim (hs n) (ht n)
theorem bytes_packText {s : List Nat} (h : Bytes s) : Bytes (packText s) := bytes_app (bytes_le4 _) h
theorem bytes_packL {l : List Ch} (hl : l.length ≤ 255) (h : ∀ c ∈ l, ChBytes c) : Bytes (packL l) := by
  intro n hn
  simp only [packL, List.mem_cons, List.mem_flatMap] at hn
  rcases hn with rfl | ⟨c, hc, hn⟩
  · omega
  · obtain ⟨h0, h1, h2, h3, h4⟩ := h c hc
    simp only [packCh, List.mem_cons] at hn
    rcases hn with rfl | hn
    · exact h0
    · exact bytes_app (bytes_packText h1) (bytes_app (bytes_packText h2) (bytes_app (bytes_packText h3) (bytes_packText h4))) n hn

theorem sl_closed {v : V} {l : List Ch} (hv : SlOf v l) : closed v = true := by
  cases hv with
  | nil => rfl
  | some l ex => simp only [slV, closed]; exact closeds_encs l

theorem packE_good (l : List Ch) : (packE l == 0) = good l := by
  have hnot := any_not right l
  have hlong := any_nn long l
  have hgood : good l = (decide (l.length ≤ 255) && l.all right && l.all (fun c => !long c)) := rfl
  rw [hgood]
  unfold packE
  by_cases h255 : 255 < l.length
  · rw [if_pos h255, decide_eq_false (by omega)]; rfl
  · rw [if_neg h255, decide_eq_true (by omega), hnot]
    cases hr : l.all right with
    | false => rfl
    | true =>
      rw [hlong]
      cases hl : l.all (fun c => !long c) <;> rfl

section
variable {C : Ctx}

theorem back_run (F : Fns C) (f4 : EFunc) (h4 : C.spec 4 = none ∧ C.func 4 = some f4 ∧ C.apart 4 = true) (hk4 : C.memo 4 [] = some (.bool true))
    (hk5 : ∀ v l, SlOf v l → (∀ c ∈ l, ChBytes c) → C.memo 5 [v] = some (.tup [.str (packS l), .int .i64 (packE l)]))
    (hk6 : ∀ s, Bytes s → C.memo 6 [.str s] = some (unpackV s))
    (hk7 : ∀ v u l m, SlOf v l → SlOf u m → l.length ≤ 255 → C.memo 7 [v, u] = some (.bool (sameL l m)))
    (hun : ∀ s l, Bytes s → unpack s = some l → ∀ c ∈ l, ChBytes c)
    (n fuel : Nat) (v w x : V) (l : List Ch) (b : List Nat) (hv : SlOf v l) (hl : ∀ c ∈ l, ChBytes c) (hb : Bytes b) :
    ∃ h', body C (callN C (n + 1)) fuel Fn.ef3 [v, .str b] H.new = .ok (.bool true) h' := by
  have c4 : ∀ h, callN C (n + 1) (.func (.func 4) [] []) [] h = .ok (.bool true) h := fun h => call_apart h4.1 h4.2.1 h4.2.2 hk4 rfl
  have c5 : ∀ v l h, SlOf v l → (∀ c ∈ l, ChBytes c) → callN C (n + 1) (.func (.func 5) [] []) [v] h = .ok (.tup [.str (packS l), .int .i64 (packE l)]) h := fun v l h hv hl => F.known (fn := Fn.ef5) (by simp [apartFns]) n h (hk5 v l hv hl) (by simp [closeds, sl_closed hv])
  have c6 : ∀ s h, Bytes s → callN C (n + 1) (.func (.func 6) [] []) [.str s] h = .ok (unpackV s) h := fun s h hs => F.known (fn := Fn.ef6) (by simp [apartFns]) n h (hk6 s hs) rfl
  have c7 : ∀ v u l m h, SlOf v l → SlOf u m → l.length ≤ 255 → callN C (n + 1) (.func (.func 7) [] []) [v, u] h = .ok (.bool (sameL l m)) h := fun v u l m h hv hu hl => F.known (fn := Fn.ef7) (by simp [apartFns]) n h (hk7 v u l m hv hu hl) (by simp [closeds, sl_closed hv, sl_closed hu])
  have c5v := fun h => c5 v l h hv hl
  have c6b := fun h => c6 b h hb
  rw [body_eq _ _ _ _ _ _ (by simp [Fn.ef3])]
  cases hg : good l with
  | false =>
    have hpe : ¬ packE l = 0 := by have := packE_good l; rw [hg] at this; simpa using this
    cases hu : unpack b with
    | none =>
      have c6b' := c6b
      simp only [unpackV, hu] at c6b'
      simp [Fn.ef3, code_seq, code_region, code_block, ops_cons, ops_nil, runOp, simpleOp, R.bind_ok, args1, args2, env_set, put_none, opd_tmp, opd_const, gs, V.cells?, andThen_normal, andThen_ret, andThen_exit, atEnd_normal, atEnd_ret, atEnd_exit, readAt, writeAt, H.get_push, H.get_put, H.size_push, H.size_put, new_size, nbeq, nble, nblt, o2r, mkVal, fillP, setL, cut, V.okCell, binop, unop, code_cond, code_skip, code_ret, code_exit, leave_ret, leave_normal, resultsOf, resultOf, asNat, optNat, code_draw, draw_cons, draw_nil, drawn_ok, drawEnd_ok, back_get, back_size, back_mark, norm_get, norm_size, norm_mark, norm_wr, ok_all, pairOk, wrOk, apartOk, footOf, foot, H.wr_put, H.wr_push, H.mark_put, H.mark_push, sliceCells, lenV, back_norm, back_norm_push, back_norm_put, ops_guard, c4, c5v, hpe, c6b']
    | some m =>
      obtain ⟨g1, g2⟩ := pack_unpack hb hu
      have c6b' := c6b
      simp only [unpackV, hu] at c6b'
      have c5m := fun h => c5 (outV m) m h (outV_sl m) (hun b m hb hu)
      have hpem : packE m = 0 := by have := packE_good m; rw [g1] at this; simpa using this
      have hpsm : packS m = b := by simp [packS, g1, g2]
      simp only [hpem, hpsm] at c5m
      simp [Fn.ef3, code_seq, code_region, code_block, ops_cons, ops_nil, runOp, simpleOp, R.bind_ok, args1, args2, env_set, put_none, opd_tmp, opd_const, gs, V.cells?, andThen_normal, andThen_ret, andThen_exit, atEnd_normal, atEnd_ret, atEnd_exit, readAt, writeAt, H.get_push, H.get_put, H.size_push, H.size_put, new_size, nbeq, nble, nblt, o2r, mkVal, fillP, setL, cut, V.okCell, binop, unop, code_cond, code_skip, code_ret, code_exit, leave_ret, leave_normal, resultsOf, resultOf, asNat, optNat, code_draw, draw_cons, draw_nil, drawn_ok, drawEnd_ok, back_get, back_size, back_mark, norm_get, norm_size, norm_mark, norm_wr, ok_all, pairOk, wrOk, apartOk, footOf, foot, H.wr_put, H.wr_push, H.mark_put, H.mark_push, sliceCells, lenV, back_norm, back_norm_push, back_norm_put, ops_guard, c4, c5v, hpe, c6b', c5m]
  | true =>
    have hpe : packE l = 0 := by have := packE_good l; rw [hg] at this; simpa using this
    have hps : packS l = packL l := by simp [packS, hg]
    have hb1 : Bytes (packL l) := bytes_packL (good_spec hg).1 hl
    have hlen := packL_length hg
    have hpos : 1 ≤ (packL l).length := by simp [packL]
    have hw : IntKind.i64.wrap (((packL l).length : Int) - 1) = (((packL l).length - 1 : Nat) : Int) := by rw [IntWalk.i64_in _ (by omega)]; omega
    have c6a : ∀ h, callN C (n + 1) (.func (.func 6) [] []) [.str (packL l)] h = .ok (.tup [outV l, .int .i64 0]) h := fun h => by
      rw [c6 _ h hb1]; simp [unpackV, unpack_pack hg]
    have c6l : ∀ h, callN C (n + 1) (.func (.func 6) [] []) [.str ((packL l).take ((packL l).length - 1))] h = .ok (.tup [.snil, .int .i64 14]) h := fun h => by
      rw [c6 _ h (fun n hn => hb1 n (List.mem_of_mem_take hn))]; simp [unpackV, unpack_less hg hb1]
    have c6m : ∀ h, callN C (n + 1) (.func (.func 6) [] []) [.str (packL l ++ [0])] h = .ok (.tup [.snil, .int .i64 14]) h := fun h => by
      rw [c6 _ h (bytes_app hb1 (by intro n hn; simp at hn; omega))]; simp [unpackV, unpack_more hg]
    have c7l : ∀ h, callN C (n + 1) (.func (.func 7) [] []) [v, outV l] h = .ok (.bool true) h := fun h => by
      rw [c7 v (outV l) l l h hv (outV_sl l) (good_spec hg).1, (sameL_iff l l).2 rfl]
    simp only [hpe, hps] at c5v
    have hadd : (packL l).length + 1 ≤ 1099511627776 := by omega
    cases hu : unpack b with
    | none =>
      have c6b' := c6b
      simp only [unpackV, hu] at c6b'
      simp [Fn.ef3, code_seq, code_region, code_block, ops_cons, ops_nil, runOp, simpleOp, R.bind_ok, args1, args2, env_set, put_none, opd_tmp, opd_const, gs, V.cells?, andThen_normal, andThen_ret, andThen_exit, atEnd_normal, atEnd_ret, atEnd_exit, readAt, writeAt, H.get_push, H.get_put, H.size_push, H.size_put, new_size, nbeq, nble, nblt, o2r, mkVal, fillP, setL, cut, V.okCell, binop, unop, code_cond, code_skip, code_ret, code_exit, leave_ret, leave_normal, resultsOf, resultOf, asNat, optNat, code_draw, draw_cons, draw_nil, drawn_ok, drawEnd_ok, back_get, back_size, back_mark, norm_get, norm_size, norm_mark, norm_wr, ok_all, pairOk, wrOk, apartOk, footOf, foot, H.wr_put, H.wr_push, H.mark_put, H.mark_push, sliceCells, lenV, back_norm, back_norm_push, back_norm_put, ops_guard, c4, c5v, c6a, c6l, c6m, c7l, hw, hadd, c6b']
    | some m =>
      obtain ⟨g1, g2⟩ := pack_unpack hb hu
      have c6b' := c6b
      simp only [unpackV, hu] at c6b'
      have c5m := fun h => c5 (outV m) m h (outV_sl m) (hun b m hb hu)
      have hpem : packE m = 0 := by have := packE_good m; rw [g1] at this; simpa using this
      have hpsm : packS m = b := by simp [packS, g1, g2]
      simp only [hpem, hpsm] at c5m
      simp [Fn.ef3, code_seq, code_region, code_block, ops_cons, ops_nil, runOp, simpleOp, R.bind_ok, args1, args2, env_set, put_none, opd_tmp, opd_const, gs, V.cells?, andThen_normal, andThen_ret, andThen_exit, atEnd_normal, atEnd_ret, atEnd_exit, readAt, writeAt, H.get_push, H.get_put, H.size_push, H.size_put, new_size, nbeq, nble, nblt, o2r, mkVal, fillP, setL, cut, V.okCell, binop, unop, code_cond, code_skip, code_ret, code_exit, leave_ret, leave_normal, resultsOf, resultOf, asNat, optNat, code_draw, draw_cons, draw_nil, drawn_ok, drawEnd_ok, back_get, back_size, back_mark, norm_get, norm_size, norm_mark, norm_wr, ok_all, pairOk, wrOk, apartOk, footOf, foot, H.wr_put, H.wr_push, H.mark_put, H.mark_push, sliceCells, lenV, back_norm, back_norm_push, back_norm_put, ops_guard, c4, c5v, c6a, c6l, c6m, c7l, hw, hadd, c6b', c5m]
end
end Go.E
