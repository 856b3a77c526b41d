/- What Pack comes to. -/
import Derived.Test.YtmhhajebgolmlaaGreatDoorFactA
import Derived.IntWalk
set_option linter.unusedSimpArgs false
set_option linter.unusedVariables false
namespace Go.E
open Pk
set_option maxRecDepth 10000

def encs (l : List Ch) : List V := l.flatMap enc
/-- a slice of changes that lies there -/
def slV (l : List Ch) (ex : Bool) : V := .simm (encs l) l.length ex

theorem enc_length (c : Ch) : (enc c).length = 5 := rfl
theorem encs_append (l m : List Ch) : encs (l ++ m) = encs l ++ encs m := by simp [encs]
theorem encs_length (l : List Ch) : (encs l).length = l.length * 5 := by
  induction l with
  | nil => rfl
  | cons c l ih =>
    rw [show encs (c :: l) = enc c ++ encs l from rfl, List.length_append, ih, enc_length, List.length_cons]
    omega
theorem encs_drop (pre : List Ch) (c : Ch) (suf : List Ch) : (encs (pre ++ c :: suf)).drop (pre.length * 5) = enc c ++ encs suf := by
  rw [encs_append, List.drop_append_of_le_length (by rw [encs_length]; exact Nat.le_refl _), List.drop_of_length_le (by rw [encs_length]; exact Nat.le_refl _)]
  rfl
theorem encs_ne (pre : List Ch) (c : Ch) (suf : List Ch) : (encs (pre ++ c :: suf)).isEmpty = false := by
  cases h : encs (pre ++ c :: suf) with
  | nil =>
    have := congrArg List.length h
    rw [encs_length] at this
    simp at this
  | cons => rfl
theorem cut_enc (c : Ch) (r : List V) : cut 5 (enc c ++ r) = some (enc c) := rfl

def loopOf : ECode → Option ECode
  | .loop c => some c
  | .seq a b => (loopOf a).or (loopOf b)
  | .block _ c => loopOf c
  | .cond _ a b => (loopOf a).or (loopOf b)
  | _ => none
def loopIn (f : EFunc) : ECode := (loopOf f.body).getD .skip

section
variable {C : Ctx}

theorem index_loop (call : Call) (f F : Nat) (p : Ch → Bool) (hp : ∀ c h, call (.func (.func f) [] []) [.agg (enc c)] h = .ok (.bool (p c)) h) (h : H) (ex : Bool) (all : List Ch) (hall : all.length < 4611686018427387904) :
    ∀ (suf pre : List Ch) (env : Env) (fuel : Nat), all = pre ++ suf → env.get (ix 0) = slV all ex → env.get (ix 1) = .func (.func f) [] [] → env.get (ix 7) = .int .i64 all.length → env.get (ix 8) = .int .i64 pre.length → suf.length < fuel →
      ∃ x env', iter (fun env h => runCode C call F (loopIn Fn.ef24) env h) fuel env h = .ok (x, env') h ∧ ((suf.any p = false ∧ x = .exit 0) ∨ (suf.any p = true ∧ x = .ret ∧ ∃ k : Nat, env'.get (ix 4) = .int .i64 k))
  | _, _, _, 0, _, _, _, _, _, hf => absurd hf (by omega)
  | [], pre, env, fuel + 1, ha, h0, h1, h7, h8, hf => by
    have hlt : ¬ (pre.length : Int) < (all.length : Int) := by rw [ha]; simp
    rw [iter_succ]
    simp [loopIn, loopOf, Option.getD_some, Option.getD_none, Option.or_some, Option.none_or, Option.some_or, Fn.ef24, code_seq, code_region, code_block, ops_cons, ops_nil, runOp, simpleOp, R.bind_ok, args1, args2, env_set, put_none, opd_tmp, opd_const, gs, V.cells?, andThen_normal, andThen_ret, andThen_exit, atEnd_normal, atEnd_ret, atEnd_exit, readAt, writeAt, H.get_push, H.get_put, H.size_push, H.size_put, new_size, nbeq, nble, nblt, o2r, mkVal, fillP, setL, cut, V.okCell, binop, unop, code_cond, code_skip, code_ret, code_exit, leave_ret, leave_normal, resultsOf, resultOf, asNat, optNat, code_draw, draw_cons, draw_nil, drawn_ok, drawEnd_ok, back_get, back_size, back_mark, norm_get, norm_size, norm_mark, norm_wr, ok_all, pairOk, wrOk, apartOk, footOf, foot, H.wr_put, H.wr_push, H.mark_put, H.mark_push, sliceCells, lenV, back_norm, back_norm_push, back_norm_put, h0, h1, h7, h8, hlt]
  | c :: suf, pre, env, fuel + 1, ha, h0, h1, h7, h8, hf => by
    have hlen : all.length = pre.length + suf.length + 1 := by rw [ha]; simp; omega
    have hlt : (pre.length : Int) < (all.length : Int) := by omega
    have hlt' : pre.length < all.length := by omega
    have hd : (encs all).drop (pre.length * 5) = enc c ++ encs suf := by rw [ha]; exact encs_drop pre c suf
    have hne : (encs all).isEmpty = false := by rw [ha]; exact encs_ne pre c suf
    have hw : IntKind.i64.wrap ((pre.length : Int) + 1) = (pre.length : Int) + 1 := IntWalk.i64_in _ (by omega)
    rw [iter_succ]
    simp only [slV] at h0
    have step1 : p c = true → ∃ env', runCode C call F (loopIn Fn.ef24) env h = .ok (.ret, env') h ∧ env'.get (ix 4) = .int .i64 pre.length := by
      intro hpc
      simp [loopIn, loopOf, Option.getD_some, Option.getD_none, Option.or_some, Option.none_or, Option.some_or, Fn.ef24, code_seq, code_region, code_block, ops_cons, ops_nil, runOp, simpleOp, R.bind_ok, args1, args2, env_set, put_none, opd_tmp, opd_const, gs, V.cells?, andThen_normal, andThen_ret, andThen_exit, atEnd_normal, atEnd_ret, atEnd_exit, readAt, writeAt, H.get_push, H.get_put, H.size_push, H.size_put, new_size, nbeq, nble, nblt, o2r, mkVal, fillP, setL, cut, V.okCell, binop, unop, code_cond, code_skip, code_ret, code_exit, leave_ret, leave_normal, resultsOf, resultOf, asNat, optNat, code_draw, draw_cons, draw_nil, drawn_ok, drawEnd_ok, back_get, back_size, back_mark, norm_get, norm_size, norm_mark, norm_wr, ok_all, pairOk, wrOk, apartOk, footOf, foot, H.wr_put, H.wr_push, H.mark_put, H.mark_push, sliceCells, lenV, back_norm, back_norm_push, back_norm_put, h0, h1, h7, h8, hlt, hlt', hd, hne, cut_enc, hp, hpc]
    have step2 : p c = false → ∃ env', runCode C call F (loopIn Fn.ef24) env h = .ok (.normal, env') h ∧ env'.get (ix 0) = slV all ex ∧ env'.get (ix 1) = .func (.func f) [] [] ∧ env'.get (ix 7) = .int .i64 all.length ∧ env'.get (ix 8) = .int .i64 (pre.length + 1 : Nat) := by
      intro hpc
      simp [loopIn, loopOf, Option.getD_some, Option.getD_none, Option.or_some, Option.none_or, Option.some_or, Fn.ef24, code_seq, code_region, code_block, ops_cons, ops_nil, runOp, simpleOp, R.bind_ok, args1, args2, env_set, put_none, opd_tmp, opd_const, gs, V.cells?, andThen_normal, andThen_ret, andThen_exit, atEnd_normal, atEnd_ret, atEnd_exit, readAt, writeAt, H.get_push, H.get_put, H.size_push, H.size_put, new_size, nbeq, nble, nblt, o2r, mkVal, fillP, setL, cut, V.okCell, binop, unop, code_cond, code_skip, code_ret, code_exit, leave_ret, leave_normal, resultsOf, resultOf, asNat, optNat, code_draw, draw_cons, draw_nil, drawn_ok, drawEnd_ok, back_get, back_size, back_mark, norm_get, norm_size, norm_mark, norm_wr, ok_all, pairOk, wrOk, apartOk, footOf, foot, H.wr_put, H.wr_push, H.mark_put, H.mark_push, sliceCells, lenV, back_norm, back_norm_push, back_norm_put, h0, h1, h7, h8, hlt, hlt', hd, hne, cut_enc, hp, hpc, hw, slV]
    cases hpc : p c with
    | true =>
      obtain ⟨env', e1, e2⟩ := step1 hpc
      rw [e1]
      exact ⟨_, env', rfl, .inr ⟨by simp [hpc], rfl, pre.length, e2⟩⟩
    | false =>
      obtain ⟨env', e1, k0, k1, k7, k8⟩ := step2 hpc
      rw [e1]
      obtain ⟨x, env'', e4, e5⟩ := index_loop call f F p hp h ex all hall suf (pre ++ [c]) env' fuel (by rw [ha]; simp) k0 k1 k7 (by rw [k8]; simp) (by simp at hf; omega)
      refine ⟨x, env'', ?_, ?_⟩
      · rw [andThen_normal]
        exact e4
      · simpa [List.any_cons, hpc] using e5

theorem index_run (call : Call) (f fuel : Nat) (p : Ch → Bool) (hp : ∀ c h, call (.func (.func f) [] []) [.agg (enc c)] h = .ok (.bool (p c)) h) (h : H) (ex : Bool) (l : List Ch) (hl : l.length < fuel) (hl' : l.length < 4611686018427387904) :
    ∃ k : Int, body C call fuel Fn.ef24 [slV l ex, .func (.func f) [] []] h = .ok (.int .i64 k) h ∧ decide (k ≥ 0) = l.any p := by
  rw [body_eq _ _ _ _ _ _ (by simp [Fn.ef24])]
  have hloop := fun env h0 h1 h7 h8 => index_loop (C := C) call f fuel p hp h ex l hl' l [] env fuel rfl h0 h1 h7 h8 hl
  simp only [loopIn, loopOf, Option.getD_some, Option.getD_none, Option.or_some, Option.none_or, Option.some_or, Fn.ef24] at hloop
  have main : ∀ (e0 : Env), e0.get (ix 0) = slV l ex → e0.get (ix 1) = .func (.func f) [] [] → e0.get (ix 7) = .int .i64 l.length → e0.get (ix 8) = .int .i64 0 →
      ∃ k : Int, leave [.tmp (ix 4)] (andThen (atEnd 0 (runCode C call fuel (.loop (loopIn Fn.ef24)) e0 h)) (runCode C call fuel (.seq (.region [⟨(some (ix 4)), .move (.const (.int .i64 (-1))), none⟩]) .ret))) = .ok (.int .i64 k) h ∧ decide (k ≥ 0) = l.any p := by
    intro e0 h0 h1 h7 h8
    obtain ⟨x, env', e1, e2⟩ := index_loop (C := C) call f fuel p hp h ex l hl' l [] e0 fuel rfl h0 h1 h7 h8 hl
    rw [code_loop, e1]
    rcases e2 with ⟨e2, rfl⟩ | ⟨e2, rfl, k, e3⟩
    · refine ⟨-1, ?_, by rw [e2]; rfl⟩
      simp [code_seq, code_region, code_block, ops_cons, ops_nil, runOp, simpleOp, R.bind_ok, args1, args2, env_set, put_none, opd_tmp, opd_const, gs, V.cells?, andThen_normal, andThen_ret, andThen_exit, atEnd_normal, atEnd_ret, atEnd_exit, readAt, writeAt, H.get_push, H.get_put, H.size_push, H.size_put, new_size, nbeq, nble, nblt, o2r, mkVal, fillP, setL, cut, V.okCell, binop, unop, code_cond, code_skip, code_ret, code_exit, leave_ret, leave_normal, resultsOf, resultOf, asNat, optNat, code_draw, draw_cons, draw_nil, drawn_ok, drawEnd_ok, back_get, back_size, back_mark, norm_get, norm_size, norm_mark, norm_wr, ok_all, pairOk, wrOk, apartOk, footOf, foot, H.wr_put, H.wr_push, H.mark_put, H.mark_push, sliceCells, lenV, back_norm, back_norm_push, back_norm_put]
    · refine ⟨k, ?_, by rw [e2]; simp⟩
      simp [code_seq, code_region, code_block, ops_cons, ops_nil, runOp, simpleOp, R.bind_ok, args1, args2, env_set, put_none, opd_tmp, opd_const, gs, V.cells?, andThen_normal, andThen_ret, andThen_exit, atEnd_normal, atEnd_ret, atEnd_exit, readAt, writeAt, H.get_push, H.get_put, H.size_push, H.size_put, new_size, nbeq, nble, nblt, o2r, mkVal, fillP, setL, cut, V.okCell, binop, unop, code_cond, code_skip, code_ret, code_exit, leave_ret, leave_normal, resultsOf, resultOf, asNat, optNat, code_draw, draw_cons, draw_nil, drawn_ok, drawEnd_ok, back_get, back_size, back_mark, norm_get, norm_size, norm_mark, norm_wr, ok_all, pairOk, wrOk, apartOk, footOf, foot, H.wr_put, H.wr_push, H.mark_put, H.mark_push, sliceCells, lenV, back_norm, back_norm_push, back_norm_put, e3]
  simp only [loopIn, loopOf, Option.getD_some, Option.getD_none, Option.or_some, Option.none_or, Option.some_or, Fn.ef24] at main
  simp only [slV] at main ⊢
  simp [code_seq, code_region, code_block, ops_cons, ops_nil, runOp, simpleOp, R.bind_ok, args1, args2, env_set, put_none, opd_tmp, opd_const, gs, V.cells?, andThen_normal, andThen_ret, andThen_exit, atEnd_normal, atEnd_ret, atEnd_exit, readAt, writeAt, H.get_push, H.get_put, H.size_push, H.size_put, new_size, nbeq, nble, nblt, o2r, mkVal, fillP, setL, cut, V.okCell, binop, unop, code_cond, code_skip, code_ret, code_exit, leave_ret, leave_normal, resultsOf, resultOf, asNat, optNat, code_draw, draw_cons, draw_nil, drawn_ok, drawEnd_ok, back_get, back_size, back_mark, norm_get, norm_size, norm_mark, norm_wr, ok_all, pairOk, wrOk, apartOk, footOf, foot, H.wr_put, H.wr_push, H.mark_put, H.mark_push, sliceCells, lenV, back_norm, back_norm_push, back_norm_put, Fn.ef24]
  refine main _ ?_ ?_ ?_ ?_ <;> simp [code_seq, code_region, code_block, ops_cons, ops_nil, runOp, simpleOp, R.bind_ok, args1, args2, env_set, put_none, opd_tmp, opd_const, gs, V.cells?, andThen_normal, andThen_ret, andThen_exit, atEnd_normal, atEnd_ret, atEnd_exit, readAt, writeAt, H.get_push, H.get_put, H.size_push, H.size_put, new_size, nbeq, nble, nblt, o2r, mkVal, fillP, setL, cut, V.okCell, binop, unop, code_cond, code_skip, code_ret, code_exit, leave_ret, leave_normal, resultsOf, resultOf, asNat, optNat, code_draw, draw_cons, draw_nil, drawn_ok, drawEnd_ok, back_get, back_size, back_mark, norm_get, norm_size, norm_mark, norm_wr, ok_all, pairOk, wrOk, apartOk, footOf, foot, H.wr_put, H.wr_push, H.mark_put, H.mark_push, sliceCells, lenV, back_norm, back_norm_push, back_norm_put]

theorem index_nil (call : Call) (f fuel : Nat) (h : H) : body C call (fuel + 1) Fn.ef24 [.snil, .func (.func f) [] []] h = .ok (.int .i64 (-1)) h := by
  rw [body_eq _ _ _ _ _ _ (by simp [Fn.ef24])]
  simp [Fn.ef24, code_seq, code_region, code_block, ops_cons, ops_nil, runOp, simpleOp, R.bind_ok, args1, args2, env_set, put_none, opd_tmp, opd_const, gs, V.cells?, andThen_normal, andThen_ret, andThen_exit, atEnd_normal, atEnd_ret, atEnd_exit, readAt, writeAt, H.get_push, H.get_put, H.size_push, H.size_put, new_size, nbeq, nble, nblt, o2r, mkVal, fillP, setL, cut, V.okCell, binop, unop, code_cond, code_skip, code_ret, code_exit, leave_ret, leave_normal, resultsOf, resultOf, asNat, optNat, code_draw, draw_cons, draw_nil, drawn_ok, drawEnd_ok, back_get, back_size, back_mark, norm_get, norm_size, norm_mark, norm_wr, ok_all, pairOk, wrOk, apartOk, footOf, foot, H.wr_put, H.wr_push, H.mark_put, H.mark_push, sliceCells, lenV, back_norm, back_norm_push, back_norm_put, code_loop, iter_succ]

/-- a list of changes as it may come in -/
inductive SlOf : V → List Ch → Prop
  | nil : SlOf .snil []
  | some (l : List Ch) (ex : Bool) : SlOf (slV l ex) l

theorem contains_run (F : Fns C) (n f fuel : Nat) (p : Ch → Bool) (hp : ∀ m c h, callN C (m + 1) (.func (.func f) [] []) [.agg (enc c)] h = .ok (.bool (p c)) h) (h : H) {v : V} {l : List Ch} (hv : SlOf v l) (hl : l.length < n) (hl' : l.length < 4611686018427387904) :
    body C (callN C (n + 2)) fuel Fn.ef15 [v, .func (.func f) [] []] h = .ok (.bool (l.any p)) h := by
  have c24 := fun args h => F.call (f := 24) (fn := Fn.ef24) (by simp [plainFns]) (n + 1) args h
  have hi : ∃ k : Int, body C (callN C (n + 1)) (n + 1) Fn.ef24 [v, .func (.func f) [] []] h = .ok (.int .i64 k) h ∧ decide (k ≥ 0) = l.any p := by
    cases hv with
    | nil => exact ⟨-1, index_nil _ _ _ _, rfl⟩
    | some l ex => exact index_run (callN C (n + 1)) f (n + 1) p (fun c h => hp n c h) h ex l (by omega) hl'
  obtain ⟨k, h1, h2⟩ := hi
  rw [body_eq _ _ _ _ _ _ (by simp [Fn.ef15])]
  simp [Fn.ef15, code_seq, code_region, code_block, ops_cons, ops_nil, runOp, simpleOp, R.bind_ok, args1, args2, env_set, put_none, opd_tmp, opd_const, gs, V.cells?, andThen_normal, andThen_ret, andThen_exit, atEnd_normal, atEnd_ret, atEnd_exit, readAt, writeAt, H.get_push, H.get_put, H.size_push, H.size_put, new_size, nbeq, nble, nblt, o2r, mkVal, fillP, setL, cut, V.okCell, binop, unop, code_cond, code_skip, code_ret, code_exit, leave_ret, leave_normal, resultsOf, resultOf, asNat, optNat, code_draw, draw_cons, draw_nil, drawn_ok, drawEnd_ok, back_get, back_size, back_mark, norm_get, norm_size, norm_mark, norm_wr, ok_all, pairOk, wrOk, apartOk, footOf, foot, H.wr_put, H.wr_push, H.mark_put, H.mark_push, sliceCells, lenV, back_norm, back_norm_push, back_norm_put, c24, h1]
  simpa using h2
end
end Go.E

namespace Go.E
open Pk
set_option maxRecDepth 10000

def bytesV (l : List Nat) : List V := l.map fun (n : Nat) => V.int .u8 n
theorem bytesV_length (l : List Nat) : (bytesV l).length = l.length := by simp [bytesV]
theorem bytesV_append (l m : List Nat) : bytesV (l ++ m) = bytesV l ++ bytesV m := by simp [bytesV]
theorem bytesV_ok (l : List Nat) : (bytesV l).all V.okCell = true := by simp [bytesV, V.okCell]
theorem bytesV_str (l : List Nat) (hb : Bytes l) : (bytesV l).mapM asByte = some l := by
  induction l with
  | nil => rfl
  | cons n l ih =>
    have h1 : asByte (.int .u8 (n : Int)) = some n := by
      have := hb n (by simp)
      simp only [asByte]
      rw [if_pos (by omega)]
      simp
    have h2 := ih (fun m hm => hb m (by simp [hm]))
    simp only [bytesV, List.map_cons, List.mapM_cons] at h2 ⊢
    rw [h1, h2]
    rfl

section
variable {C : Ctx}

theorem esc_call (F : Fns C) (n : Nat) (x : V) (h : H) : callN C (n + 1) (.func (.func 83) [] []) [x] h = .ok x h := by
  simp only [callN, List.nil_append, List.append_nil, F.esc, special]

/-- a Builder's two cells, when it has been written to -/
def bCells (n : Nat) : Blk := .cells [.ptr 0 0 2, .sl 2 0 n n 1 n false] 59 0 0
/-- its row of bytes -/
def bRow (out : List Nat) (frz : Nat) : Blk := .cells (bytesV out) 5 1 frz

theorem eq_nil_nil : eqV 20 .ptr .pnil .pnil = some true := rfl
theorem eq_ptr_nil (b o v : Nat) : eqV 20 .ptr (.ptr b o v) .pnil = some false := rfl
theorem eq_ptr_same (b o v : Nat) : eqV 20 .ptr (.ptr b o v) (.ptr b o v) = some true := by
  show (if b = b ∧ v = v then some (o == o) else none) = some true
  simp

theorem copy1_run (F : Fns C) (n fuel : Nat) (h : H) (hg : h.get 0 = some (.cells [.pnil, .snil] 59 0 0)) :
    body C (callN C (n + 1)) fuel Fn.ef40 [.ptr 0 0 2] h = .ok (.tup []) (h.put 0 (.cells [.ptr 0 0 2, .snil] 59 0 0)) := by
  have hl := F.lies
  rw [body_eq _ _ _ _ _ _ (by simp [Fn.ef40])]
  simp [Fn.ef40, code_seq, code_region, code_block, ops_cons, ops_nil, runOp, simpleOp, R.bind_ok, args1, args2, env_set, put_none, opd_tmp, opd_const, gs, V.cells?, andThen_normal, andThen_ret, andThen_exit, atEnd_normal, atEnd_ret, atEnd_exit, readAt, writeAt, H.get_push, H.get_put, H.size_push, H.size_put, new_size, nbeq, nble, nblt, o2r, mkVal, fillP, setL, cut, V.okCell, binop, unop, code_cond, code_skip, code_ret, code_exit, leave_ret, leave_normal, resultsOf, resultOf, asNat, optNat, code_draw, draw_cons, draw_nil, drawn_ok, drawEnd_ok, back_get, back_size, back_mark, norm_get, norm_size, norm_mark, norm_wr, ok_all, pairOk, wrOk, apartOk, footOf, foot, H.wr_put, H.wr_push, H.mark_put, H.mark_push, sliceCells, lenV, back_norm, back_norm_push, back_norm_put, hg, eq_nil_nil, esc_call F, hl]

theorem copy2_run (n fuel : Nat) (h : H) (x : V) (hg : h.get 0 = some (.cells [.ptr 0 0 2, x] 59 0 0)) :
    body C (callN C (n + 1)) fuel Fn.ef40 [.ptr 0 0 2] h = .ok (.tup []) h := by
  rw [body_eq _ _ _ _ _ _ (by simp [Fn.ef40])]
  simp [Fn.ef40, code_seq, code_region, code_block, ops_cons, ops_nil, runOp, simpleOp, R.bind_ok, args1, args2, env_set, put_none, opd_tmp, opd_const, gs, V.cells?, andThen_normal, andThen_ret, andThen_exit, atEnd_normal, atEnd_ret, atEnd_exit, readAt, writeAt, H.get_push, H.get_put, H.size_push, H.size_put, new_size, nbeq, nble, nblt, o2r, mkVal, fillP, setL, cut, V.okCell, binop, unop, code_cond, code_skip, code_ret, code_exit, leave_ret, leave_normal, resultsOf, resultOf, asNat, optNat, code_draw, draw_cons, draw_nil, drawn_ok, drawEnd_ok, back_get, back_size, back_mark, norm_get, norm_size, norm_mark, norm_wr, ok_all, pairOk, wrOk, apartOk, footOf, foot, H.wr_put, H.wr_push, H.mark_put, H.mark_push, sliceCells, lenV, back_norm, back_norm_push, back_norm_put, hg, eq_ptr_nil, eq_ptr_same]

/-- what is appended to a Builder's row -/
theorem append_run (h : H) (out new : List Nat) (hne : new ≠ []) (hl : out.length + new.length ≤ 1099511627776) (hg : h.get 2 = some (bRow out 0)) :
    appendE h 5 1 1 (bytesV new) new.length (.sl 2 0 out.length out.length 1 out.length false) = .ok (.sl 2 0 (out ++ new).length (out ++ new).length 1 (out ++ new).length false) (h.put 2 (bRow (out ++ new) 0)) := by
  have h1 : new.length ≠ 0 := by
    intro e
    exact hne (List.eq_nil_of_length_eq_zero e)
  have h2 : ¬ (out.length + new.length ≤ out.length) := by omega
  simp only [bRow] at hg ⊢
  simp [appendE, nbeq, nble, nblt, bytesV_ok, h1, h2, roomy, hl, hg, bytesV_length, List.take_of_length_le, bytesV_append]

theorem byte1_run (F : Fns C) (n fuel b : Nat) (h : H) (hg : h.get 0 = some (.cells [.pnil, .snil] 59 0 0)) (hs : h.size = 1) :
    ∃ v h', body C (callN C (n + 2)) fuel Fn.ef18 [.ptr 0 0 2, .int .u8 b] h = .ok v h' ∧ h'.get 0 = some (bCells 1) ∧ h'.get 2 = some (bRow [b] 0) ∧ h'.size = 3 := by
  have c40 := fun args h => F.call (f := 40) (fn := Fn.ef40) (by simp [plainFns]) (n + 1) args h
  have h1 := copy1_run F n (n + 1) h hg
  rw [body_eq _ _ _ _ _ _ (by simp [Fn.ef18])]
  simp [Fn.ef18, code_seq, code_region, code_block, ops_cons, ops_nil, runOp, simpleOp, R.bind_ok, args1, args2, env_set, put_none, opd_tmp, opd_const, gs, V.cells?, andThen_normal, andThen_ret, andThen_exit, atEnd_normal, atEnd_ret, atEnd_exit, readAt, writeAt, H.get_push, H.get_put, H.size_push, H.size_put, new_size, nbeq, nble, nblt, o2r, mkVal, fillP, setL, cut, V.okCell, binop, unop, code_cond, code_skip, code_ret, code_exit, leave_ret, leave_normal, resultsOf, resultOf, asNat, optNat, code_draw, draw_cons, draw_nil, drawn_ok, drawEnd_ok, back_get, back_size, back_mark, norm_get, norm_size, norm_mark, norm_wr, ok_all, pairOk, wrOk, apartOk, footOf, foot, H.wr_put, H.wr_push, H.mark_put, H.mark_push, sliceCells, lenV, back_norm, back_norm_push, back_norm_put, c40, h1, hg, hs, repl, appendE, roomy, bCells, bRow, bytesV, and_assoc]

theorem byte_run (F : Fns C) (n fuel b : Nat) (out : List Nat) (h : H) (hl : out.length < 1099511627776) (h0 : h.get 0 = some (bCells out.length)) (h2 : h.get 2 = some (bRow out 0)) (hs : 3 ≤ h.size) :
    ∃ v h', body C (callN C (n + 2)) fuel Fn.ef18 [.ptr 0 0 2, .int .u8 b] h = .ok v h' ∧ h'.get 0 = some (bCells (out ++ [b]).length) ∧ h'.get 2 = some (bRow (out ++ [b]) 0) ∧ h'.size = h.size + 1 ∧ ∀ k, k ≠ 0 → k ≠ 2 → k ≠ h.size → h'.get k = h.get k := by
  have c40 := fun args h => F.call (f := 40) (fn := Fn.ef40) (by simp [plainFns]) (n + 1) args h
  simp only [bCells] at h0
  have h1 := copy2_run (C := C) n (n + 1) h _ h0
  have e0 : ¬ (0 = h.size) := by omega
  have e2 : ¬ (2 = h.size) := by omega
  have ha := append_run (h.push (.cells [.int .u8 b] 5 0 0)) out [b] (by simp) (by simp; omega) (by rw [H.get_push, if_neg e2]; exact h2)
  simp only [bytesV, List.map_cons, List.map_nil, List.length_cons, List.length_nil, Nat.zero_add] at ha
  rw [body_eq _ _ _ _ _ _ (by simp [Fn.ef18])]
  simp [Fn.ef18, code_seq, code_region, code_block, ops_cons, ops_nil, runOp, simpleOp, R.bind_ok, args1, args2, env_set, put_none, opd_tmp, opd_const, gs, V.cells?, andThen_normal, andThen_ret, andThen_exit, atEnd_normal, atEnd_ret, atEnd_exit, readAt, writeAt, H.get_push, H.get_put, H.size_push, H.size_put, new_size, nbeq, nble, nblt, o2r, mkVal, fillP, setL, cut, V.okCell, binop, unop, code_cond, code_skip, code_ret, code_exit, leave_ret, leave_normal, resultsOf, resultOf, asNat, optNat, code_draw, draw_cons, draw_nil, drawn_ok, drawEnd_ok, back_get, back_size, back_mark, norm_get, norm_size, norm_mark, norm_wr, ok_all, pairOk, wrOk, apartOk, footOf, foot, H.wr_put, H.wr_push, H.mark_put, H.mark_push, sliceCells, lenV, back_norm, back_norm_push, back_norm_put, c40, h1, h0, h2, e0, e2, repl, ha, bCells, and_assoc]
  intro k k0 k2 ks
  simp [k0, k2, ks]
end
end Go.E

namespace Go.E
open Pk
set_option maxRecDepth 10000

theorem cut_all : ∀ (l : List V), cut l.length l = some l
  | [] => rfl
  | v :: l => by simp [cut, cut_all l]

section
variable {C : Ctx}

theorem str_run (F : Fns C) (n fuel : Nat) (s out : List Nat) (h : H) (hne : s ≠ []) (hl : out.length + s.length ≤ 1099511627776) (h0 : h.get 0 = some (bCells out.length)) (h2 : h.get 2 = some (bRow out 0)) :
    ∃ v h', body C (callN C (n + 2)) fuel Fn.ef19 [.ptr 0 0 2, .str s] h = .ok v h' ∧ h'.get 0 = some (bCells (out ++ s).length) ∧ h'.get 2 = some (bRow (out ++ s) 0) ∧ h'.size = h.size ∧ ∀ k, k ≠ 0 → k ≠ 2 → h'.get k = h.get k := by
  have c40 := fun args h => F.call (f := 40) (fn := Fn.ef40) (by simp [plainFns]) (n + 1) args h
  simp only [bCells] at h0
  have h1 := copy2_run (C := C) n (n + 1) h _ h0
  have ha := append_run h out s hne hl h2
  simp only [bytesV] at ha
  rw [body_eq _ _ _ _ _ _ (by simp [Fn.ef19])]
  simp [Fn.ef19, code_seq, code_region, code_block, ops_cons, ops_nil, runOp, simpleOp, R.bind_ok, args1, args2, env_set, put_none, opd_tmp, opd_const, gs, V.cells?, andThen_normal, andThen_ret, andThen_exit, atEnd_normal, atEnd_ret, atEnd_exit, readAt, writeAt, H.get_push, H.get_put, H.size_push, H.size_put, new_size, nbeq, nble, nblt, o2r, mkVal, fillP, setL, cut, V.okCell, binop, unop, code_cond, code_skip, code_ret, code_exit, leave_ret, leave_normal, resultsOf, resultOf, asNat, optNat, code_draw, draw_cons, draw_nil, drawn_ok, drawEnd_ok, back_get, back_size, back_mark, norm_get, norm_size, norm_mark, norm_wr, ok_all, pairOk, wrOk, apartOk, footOf, foot, H.wr_put, H.wr_push, H.mark_put, H.mark_push, sliceCells, lenV, back_norm, back_norm_push, back_norm_put, c40, h1, h0, h2, ha, bCells, and_assoc]
  intro k k0 k2
  simp [k0, k2]

theorem string_run (n fuel : Nat) (out : List Nat) (h : H) (hb : Bytes out) (hne : out ≠ []) (hl : out.length ≤ 1099511627776) (h0 : h.get 0 = some (bCells out.length)) (h2 : h.get 2 = some (bRow out 0)) (hs : 3 ≤ h.size) :
    ∃ h', body C (callN C n) fuel Fn.ef21 [.ptr 0 0 2] h = .ok (.str out) h' := by
  simp only [bCells, bRow] at h0 h2
  have h1 : out.length ≠ 0 := fun e => hne (List.eq_nil_of_length_eq_zero e)
  have hc : cut out.length (bytesV out) = some (bytesV out) := by
    have := cut_all (bytesV out)
    rwa [bytesV_length] at this
  have hm := bytesV_str out hb
  have e2 : 2 < h.size := by omega
  rw [body_eq _ _ _ _ _ _ (by simp [Fn.ef21])]
  simp [Fn.ef21, code_seq, code_region, code_block, ops_cons, ops_nil, runOp, simpleOp, R.bind_ok, args1, args2, env_set, put_none, opd_tmp, opd_const, gs, V.cells?, andThen_normal, andThen_ret, andThen_exit, atEnd_normal, atEnd_ret, atEnd_exit, readAt, writeAt, H.get_push, H.get_put, H.size_push, H.size_put, new_size, nbeq, nble, nblt, o2r, mkVal, fillP, setL, cut, V.okCell, binop, unop, code_cond, code_skip, code_ret, code_exit, leave_ret, leave_normal, resultsOf, resultOf, asNat, optNat, code_draw, draw_cons, draw_nil, drawn_ok, drawEnd_ok, back_get, back_size, back_mark, norm_get, norm_size, norm_mark, norm_wr, ok_all, pairOk, wrOk, apartOk, footOf, foot, H.wr_put, H.wr_push, H.mark_put, H.mark_push, sliceCells, lenV, back_norm, back_norm_push, back_norm_put, h0, h2, h1, hc, hm, hl, e2, bytesV_length]

/-- how things stand in Pack's loop -/
structure BH (h : H) (out : List Nat) : Prop where
  c : h.get 0 = some (bCells out.length)
  r : h.get 2 = some (bRow out 0)
  s : 3 ≤ h.size

theorem packText_ne (s : List Nat) : packText s ≠ [] := by simp [packText, le4]

theorem pack_step (F : Fns C) (hk : ∀ s : List Nat, s.length ≤ 2048 → C.memo 20 [.str s] = some (.str (packText s))) (n fuel : Nat) (env : Env) (h : H) (out : List Nat) (all pre suf : List Ch) (c : Ch) (ex : Bool)
    (ha : all = pre ++ c :: suf) (hall : all.length < 4611686018427387904) (hlong : long c = false) (hout : out.length ≤ 1000000000) (B : BH h out)
    (e5 : env.get (ix 5) = .ptr 0 0 2) (e25 : env.get (ix 25) = slV all ex) (e26 : env.get (ix 26) = .int .i64 all.length) (e27 : env.get (ix 27) = .int .i64 pre.length) :
    ∃ env' h', runCode C (callN C (n + 8)) (fuel + 5) (loopIn Fn.ef5) env h = .ok (.normal, env') h' ∧ BH h' (out ++ packCh c) ∧
      env'.get (ix 5) = .ptr 0 0 2 ∧ env'.get (ix 25) = slV all ex ∧ env'.get (ix 26) = .int .i64 all.length ∧ env'.get (ix 27) = .int .i64 (pre.length + 1 : Nat) := by
  simp only [long, Bool.or_eq_false_iff, decide_eq_false_iff_not, Nat.not_lt] at hlong
  obtain ⟨⟨⟨l1, l2⟩, l3⟩, l4⟩ := hlong
  have hlen : all.length = pre.length + suf.length + 1 := by rw [ha]; simp; omega
  have hlt : (pre.length : Int) < (all.length : Int) := by omega
  have hlt' : pre.length < all.length := by omega
  have hd : (encs all).drop (pre.length * 5) = enc c ++ encs suf := by rw [ha]; exact encs_drop pre c suf
  have hne : (encs all).isEmpty = false := by rw [ha]; exact encs_ne pre c suf
  have hw : IntKind.i64.wrap ((pre.length : Int) + 1) = (pre.length : Int) + 1 := IntWalk.i64_in _ (by omega)
  have c18 := fun args h => F.call (f := 18) (fn := Fn.ef18) (by simp [plainFns]) (n + 7) args h
  have c19 := fun args h => F.call (f := 19) (fn := Fn.ef19) (by simp [plainFns]) (n + 7) args h
  have c13 := fun args h => F.call (f := 13) (fn := Fn.ef13) (by simp [plainFns]) (n + 7) args h
  have c20 := fun (s : List Nat) (hs : s.length ≤ 2048) h => F.known (f := 20) (fn := Fn.ef20) (by simp [apartFns]) (n + 7) h (hk s hs) rfl
  obtain ⟨B0, B2, Bs⟩ := B
  have pl : ∀ s : List Nat, (packText s).length = 4 + s.length := fun s => by simp [packText, le4]; omega
  -- the change's own variable
  have z0 : ¬ 0 = h.size := by omega
  have z2 : ¬ 2 = h.size := by omega
  obtain ⟨v1, hB, r1, b1, b2, b3, b4⟩ := byte_run F (n + 5) (n + 7) c.k out ((h.push (.cells [.int .u8 0, .str [], .str [], .str [], .str []] 35 0 0)).put h.size (.cells (enc c) 35 0 0)) (by omega)
    (by rw [H.get_put, if_neg z0, H.get_push, if_neg z0]; exact B0) (by rw [H.get_put, if_neg z2, H.get_push, if_neg z2]; exact B2) (by simp; omega)
  have bk : hB.get h.size = some (.cells (enc c) 35 0 0) := by rw [b4 _ (by omega) (by omega) (by simp), H.get_put, if_pos rfl]
  simp only [H.size_put, H.size_push] at b3
  -- its texts' places
  have y0 : ¬ 0 = hB.size := by omega
  have y2 : ¬ 2 = hB.size := by omega
  have yk : ¬ h.size = hB.size := by omega
  obtain ⟨v2, hD, r2, d1, d2, d3, d4⟩ := str_run F (n + 5) (n + 7) (packText c.id) (out ++ [c.k]) (hB.push (.cells [.ptr h.size 1 5, .ptr h.size 2 5, .ptr h.size 3 5, .ptr h.size 4 5] 50 0 0)) (packText_ne _) (by rw [pl]; simp; omega)
    (by rw [H.get_push, if_neg y0]; exact b1) (by rw [H.get_push, if_neg y2]; exact b2)
  obtain ⟨v3, hE, r3, f1, f2, f3, f4⟩ := str_run F (n + 5) (n + 7) (packText c.text) (out ++ [c.k] ++ packText c.id) hD (packText_ne _) (by rw [pl]; simp [pl]; omega) d1 d2
  obtain ⟨v4, hG, r4, g1, g2, g3, g4⟩ := str_run F (n + 5) (n + 7) (packText c.ty) (out ++ [c.k] ++ packText c.id ++ packText c.text) hE (packText_ne _) (by rw [pl]; simp [pl]; omega) f1 f2
  obtain ⟨v5, hJ, r5, j1, j2, j3, j4⟩ := str_run F (n + 5) (n + 7) (packText c.uid) (out ++ [c.k] ++ packText c.id ++ packText c.text ++ packText c.ty) hG (packText_ne _) (by rw [pl]; simp [pl]; omega) g1 g2
  have tk0 : (hB.push (.cells [.ptr h.size 1 5, .ptr h.size 2 5, .ptr h.size 3 5, .ptr h.size 4 5] 50 0 0)).get hB.size = some (.cells [.ptr h.size 1 5, .ptr h.size 2 5, .ptr h.size 3 5, .ptr h.size 4 5] 50 0 0) := by rw [H.get_push, if_pos rfl]
  have ck0 : (hB.push (.cells [.ptr h.size 1 5, .ptr h.size 2 5, .ptr h.size 3 5, .ptr h.size 4 5] 50 0 0)).get h.size = some (.cells (enc c) 35 0 0) := by rw [H.get_push, if_neg yk]; exact bk
  have tk1 : hD.get hB.size = some (.cells [.ptr h.size 1 5, .ptr h.size 2 5, .ptr h.size 3 5, .ptr h.size 4 5] 50 0 0) := by rw [d4 _ (by omega) (by omega)]; exact tk0
  have ck1 : hD.get h.size = some (.cells (enc c) 35 0 0) := by rw [d4 _ (by omega) (by omega)]; exact ck0
  have tk2 : hE.get hB.size = some (.cells [.ptr h.size 1 5, .ptr h.size 2 5, .ptr h.size 3 5, .ptr h.size 4 5] 50 0 0) := by rw [f4 _ (by omega) (by omega)]; exact tk1
  have ck2 : hE.get h.size = some (.cells (enc c) 35 0 0) := by rw [f4 _ (by omega) (by omega)]; exact ck1
  have tk3 : hG.get hB.size = some (.cells [.ptr h.size 1 5, .ptr h.size 2 5, .ptr h.size 3 5, .ptr h.size 4 5] 50 0 0) := by rw [g4 _ (by omega) (by omega)]; exact tk2
  have ck3 : hG.get h.size = some (.cells (enc c) 35 0 0) := by rw [g4 _ (by omega) (by omega)]; exact ck2
  have k1 := c20 c.id l1
  have k2 := c20 c.text l2
  have k3 := c20 c.ty l3
  have k4 := c20 c.uid l4
  have hfin : BH hJ (out ++ packCh c) := by
    have e : out ++ packCh c = out ++ [c.k] ++ packText c.id ++ packText c.text ++ packText c.ty ++ packText c.uid := by simp [packCh]
    rw [e]
    exact ⟨j1, j2, by rw [j3, g3, f3, d3]; simp; omega⟩
  simp only [slV] at e25
  simp only [enc] at r1 ck0 ck1 ck2 ck3 hd
  have hcut : cut 5 ([V.int .u8 c.k, .str c.id, .str c.text, .str c.ty, .str c.uid] ++ encs suf) = some [V.int .u8 c.k, .str c.id, .str c.text, .str c.ty, .str c.uid] := rfl
  have w0 : IntKind.i64.wrap (0 + 1) = 1 := rfl
  have w1 : IntKind.i64.wrap (1 + 1) = 2 := rfl
  have w2 : IntKind.i64.wrap (2 + 1) = 3 := rfl
  have w3 : IntKind.i64.wrap (3 + 1) = 4 := rfl
  simp only [Int.reduceAdd] at w0 w1 w2 w3
  simp [loopIn, loopOf, Option.getD_some, Option.getD_none, Option.or_some, Option.none_or, Option.some_or, Fn.ef5, code_seq, code_region, code_block, ops_cons, ops_nil, runOp, simpleOp, R.bind_ok, args1, args2, env_set, put_none, opd_tmp, opd_const, gs, V.cells?, andThen_normal, andThen_ret, andThen_exit, atEnd_normal, atEnd_ret, atEnd_exit, readAt, writeAt, H.get_push, H.get_put, H.size_push, H.size_put, new_size, nbeq, nble, nblt, o2r, mkVal, fillP, setL, cut, V.okCell, binop, unop, code_cond, code_skip, code_ret, code_exit, leave_ret, leave_normal, resultsOf, resultOf, asNat, optNat, code_draw, draw_cons, draw_nil, drawn_ok, drawEnd_ok, back_get, back_size, back_mark, norm_get, norm_size, norm_mark, norm_wr, ok_all, pairOk, wrOk, apartOk, footOf, foot, H.wr_put, H.wr_push, H.mark_put, H.mark_push, sliceCells, lenV, back_norm, back_norm_push, back_norm_put, code_loop, iter_succ, c18, c19, c13, texts_run, k1, k2, k3, k4, e5, e25, e26, e27, hlt, hlt', hd, hne, hcut, hw, w0, w1, w2, w3, r1, r2, r3, r4, r5, tk0, tk1, tk2, tk3, ck0, ck1, ck2, ck3, slV, and_assoc, hfin]

theorem packCh_length (c : Ch) (h : long c = false) : (packCh c).length ≤ 8209 := by
  simp only [long, Bool.or_eq_false_iff, decide_eq_false_iff_not, Nat.not_lt] at h
  obtain ⟨⟨⟨l1, l2⟩, l3⟩, l4⟩ := h
  simp [packCh, packText, le4]
  omega

theorem pack_loop (F : Fns C) (hk : ∀ s : List Nat, s.length ≤ 2048 → C.memo 20 [.str s] = some (.str (packText s))) (n fuel : Nat) (all : List Ch) (v : V) (hv : SlOf v all) (hall : all.length < 4611686018427387904) :
    ∀ (suf pre : List Ch) (env : Env) (h : H) (out : List Nat) (m : Nat), all = pre ++ suf → suf.all (fun c => !long c) = true → out.length + suf.length * 8209 ≤ 1000000000 → BH h out →
      env.get (ix 5) = .ptr 0 0 2 → env.get (ix 25) = v → env.get (ix 26) = .int .i64 all.length → env.get (ix 27) = .int .i64 pre.length → suf.length < m →
      ∃ env' h', iter (fun env h => runCode C (callN C (n + 8)) (fuel + 5) (loopIn Fn.ef5) env h) m env h = .ok (.exit 1, env') h' ∧ BH h' (out ++ suf.flatMap packCh) ∧ env'.get (ix 5) = .ptr 0 0 2
  | _, _, _, _, _, 0, _, _, _, _, _, _, _, _, hm => absurd hm (by omega)
  | [], pre, env, h, out, m + 1, ha, _, _, B, e5, e25, e26, e27, _ => by
    have hlt : ¬ (pre.length : Int) < (all.length : Int) := by rw [ha]; simp
    rw [iter_succ]
    simp [loopIn, loopOf, Option.getD_some, Option.getD_none, Option.or_some, Option.none_or, Option.some_or, Fn.ef5, code_seq, code_region, code_block, ops_cons, ops_nil, runOp, simpleOp, R.bind_ok, args1, args2, env_set, put_none, opd_tmp, opd_const, gs, V.cells?, andThen_normal, andThen_ret, andThen_exit, atEnd_normal, atEnd_ret, atEnd_exit, readAt, writeAt, H.get_push, H.get_put, H.size_push, H.size_put, new_size, nbeq, nble, nblt, o2r, mkVal, fillP, setL, cut, V.okCell, binop, unop, code_cond, code_skip, code_ret, code_exit, leave_ret, leave_normal, resultsOf, resultOf, asNat, optNat, code_draw, draw_cons, draw_nil, drawn_ok, drawEnd_ok, back_get, back_size, back_mark, norm_get, norm_size, norm_mark, norm_wr, ok_all, pairOk, wrOk, apartOk, footOf, foot, H.wr_put, H.wr_push, H.mark_put, H.mark_push, sliceCells, lenV, back_norm, back_norm_push, back_norm_put, e26, e27, hlt, e5, B, and_assoc]
  | c :: suf, pre, env, h, out, m + 1, ha, hl, ho, B, e5, e25, e26, e27, hm => by
    have hsl : ∃ ex, v = slV all ex := by
      cases hv with
      | nil => simp at ha
      | some l ex => exact ⟨ex, rfl⟩
    obtain ⟨ex, rfl⟩ := hsl
    simp only [List.all_cons, Bool.and_eq_true, Bool.not_eq_true'] at hl
    simp only [List.length_cons] at ho hm
    have hc := packCh_length c hl.1
    obtain ⟨env', h', r, B', k5, k25, k26, k27⟩ := pack_step F hk n fuel env h out all pre suf c ex ha hall hl.1 (by omega) B e5 e25 e26 e27
    obtain ⟨env'', h'', r', B'', k5'⟩ := pack_loop F hk n fuel all _ hv hall suf (pre ++ [c]) env' h' (out ++ packCh c) m (by rw [ha]; simp) hl.2 (by simp; omega) B' k5 k25 k26 (by rw [k27]; simp) (by omega)
    refine ⟨env'', h'', ?_, ?_, k5'⟩
    · rw [iter_succ, r, andThen_normal]
      exact r'
    · rw [List.flatMap_cons, ← List.append_assoc]
      exact B''
end
end Go.E

namespace Go.E
open Pk
set_option maxRecDepth 10000

def packS (l : List Ch) : List Nat := if good l then packL l else []
def packE (l : List Ch) : Int := if 255 < l.length then 2 else if l.any (fun c => !right c) then 5 else if l.any long then 3 else 0

theorem any_not (p : Ch → Bool) : ∀ l : List Ch, l.any (fun c => !p c) = !l.all p
  | [] => rfl
  | c :: l => by simp only [List.any_cons, List.all_cons, any_not p l, Bool.not_and]
theorem any_nn (p : Ch → Bool) : ∀ l : List Ch, l.any p = !l.all (fun c => !p c)
  | [] => rfl
  | c :: l => by simp only [List.any_cons, List.all_cons, any_nn p l, Bool.not_and, Bool.not_not]

section
variable {C : Ctx}

theorem sl_len {v : V} {l : List Ch} (hv : SlOf v l) (h : H) (env : Env) (x : Opd) (hx : x.get C env = v) : simpleOp C env h (.lenSl x) = .ok (.int .i64 l.length) h := by
  cases hv with
  | nil => simp [simpleOp, hx]
  | some l ex => simp [simpleOp, hx, slV]

theorem pack_run (F : Fns C) (hk : ∀ s : List Nat, s.length ≤ 2048 → C.memo 20 [.str s] = some (.str (packText s))) (hk11 : ∀ c : Ch, C.memo 11 [.agg (enc c)] = some (.bool (long c))) (hk16 : ∀ c : Ch, C.memo 16 [.agg (enc c)] = some (.bool !right c))
    (n fuel : Nat) (v : V) (l : List Ch) (hv : SlOf v l) (hb0 : good l = true → Bytes (packL l)) : ∃ h', body C (callN C (n + 300)) (fuel + 300) Fn.ef5 [v] H.new = .ok (.tup [.str (packS l), .int .i64 (packE l)]) h' := by
  have c15 := fun args h => F.call (f := 15) (fn := Fn.ef15) (by simp [plainFns]) (n + 299) args h
  have c18 := fun args h => F.call (f := 18) (fn := Fn.ef18) (by simp [plainFns]) (n + 299) args h
  have c21 := fun args h => F.call (f := 21) (fn := Fn.ef21) (by simp [plainFns]) (n + 299) args h
  have hl := fun h env x hx => sl_len (C := C) hv h env x hx
  have p11 : ∀ m c h, callN C (m + 1) (.func (.func 11) [] []) [.agg (enc c)] h = .ok (.bool (long c)) h := fun m c h => F.known (fn := Fn.ef11) (by simp [apartFns]) m h (hk11 c) (by simp [closeds, closed, enc])
  have p16 : ∀ m c h, callN C (m + 1) (.func (.func 16) [] []) [.agg (enc c)] h = .ok (.bool !right c) h := fun m c h => F.known (fn := Fn.ef16) (by simp [apartFns]) m h (hk16 c) (by simp [closeds, closed, enc])
  have hnot := any_not right l
  have hlong := any_nn long l
  have hgood : good l = (decide (l.length ≤ 255) && l.all right && l.all (fun c => !long c)) := rfl
  rw [body_eq _ _ _ _ _ _ (by simp [Fn.ef5])]
  by_cases h255 : 255 < l.length
  · have h255' : (255 : Int) < l.length := by omega
    have hg : good l = false := by rw [hgood, decide_eq_false (by omega)]; rfl
    cases hv with
    | nil => simp at h255
    | some l ex =>
      simp only [slV]
      simp [code_seq, code_region, code_block, ops_cons, ops_nil, runOp, simpleOp, R.bind_ok, args1, args2, env_set, put_none, opd_tmp, opd_const, gs, V.cells?, andThen_normal, andThen_ret, andThen_exit, atEnd_normal, atEnd_ret, atEnd_exit, readAt, writeAt, H.get_push, H.get_put, H.size_push, H.size_put, new_size, nbeq, nble, nblt, o2r, mkVal, fillP, setL, cut, V.okCell, binop, unop, code_cond, code_skip, code_ret, code_exit, leave_ret, leave_normal, resultsOf, resultOf, asNat, optNat, code_draw, draw_cons, draw_nil, drawn_ok, drawEnd_ok, back_get, back_size, back_mark, norm_get, norm_size, norm_mark, norm_wr, ok_all, pairOk, wrOk, apartOk, footOf, foot, H.wr_put, H.wr_push, H.mark_put, H.mark_push, sliceCells, lenV, back_norm, back_norm_push, back_norm_put, Fn.ef5, packS, packE, h255, h255', hg]
  · have h255' : ¬ (255 : Int) < l.length := by omega
    have h255'' : l.length ≤ 255 := by omega
    have cw := fun h => contains_run F (n + 297) 16 (n + 299) (fun c => !right c) p16 h hv (by omega) (by omega)
    have cl := fun h => contains_run F (n + 297) 11 (n + 299) long p11 h hv (by omega) (by omega)
    cases hr : l.any (fun c => !right c) with
    | true =>
      have hg : good l = false := by
        rw [hnot] at hr
        rw [hgood, show l.all right = false by simpa using hr]
        simp
      rw [hr] at cw
      cases hv with
      | nil => simp at hr
      | some l ex =>
        simp only [slV] at cw ⊢
        simp [code_seq, code_region, code_block, ops_cons, ops_nil, runOp, simpleOp, R.bind_ok, args1, args2, env_set, put_none, opd_tmp, opd_const, gs, V.cells?, andThen_normal, andThen_ret, andThen_exit, atEnd_normal, atEnd_ret, atEnd_exit, readAt, writeAt, H.get_push, H.get_put, H.size_push, H.size_put, new_size, nbeq, nble, nblt, o2r, mkVal, fillP, setL, cut, V.okCell, binop, unop, code_cond, code_skip, code_ret, code_exit, leave_ret, leave_normal, resultsOf, resultOf, asNat, optNat, code_draw, draw_cons, draw_nil, drawn_ok, drawEnd_ok, back_get, back_size, back_mark, norm_get, norm_size, norm_mark, norm_wr, ok_all, pairOk, wrOk, apartOk, footOf, foot, H.wr_put, H.wr_push, H.mark_put, H.mark_push, sliceCells, lenV, back_norm, back_norm_push, back_norm_put, Fn.ef5, packS, packE, h255, h255', hg, c15, cw, hr]
    | false =>
      rw [hr] at cw
      cases hlg : l.any long with
      | true =>
        have hg : good l = false := by
          rw [hlong] at hlg
          rw [hgood, show (l.all fun c => !long c) = false by simpa using hlg]
          simp
        rw [hlg] at cl
        cases hv with
        | nil => simp at hlg
        | some l ex =>
          simp only [slV] at cw cl ⊢
          simp [code_seq, code_region, code_block, ops_cons, ops_nil, runOp, simpleOp, R.bind_ok, args1, args2, env_set, put_none, opd_tmp, opd_const, gs, V.cells?, andThen_normal, andThen_ret, andThen_exit, atEnd_normal, atEnd_ret, atEnd_exit, readAt, writeAt, H.get_push, H.get_put, H.size_push, H.size_put, new_size, nbeq, nble, nblt, o2r, mkVal, fillP, setL, cut, V.okCell, binop, unop, code_cond, code_skip, code_ret, code_exit, leave_ret, leave_normal, resultsOf, resultOf, asNat, optNat, code_draw, draw_cons, draw_nil, drawn_ok, drawEnd_ok, back_get, back_size, back_mark, norm_get, norm_size, norm_mark, norm_wr, ok_all, pairOk, wrOk, apartOk, footOf, foot, H.wr_put, H.wr_push, H.mark_put, H.mark_push, sliceCells, lenV, back_norm, back_norm_push, back_norm_put, Fn.ef5, packS, packE, h255, h255', hg, c15, cw, cl, hr, hlg]
      | false =>
        have hnl : (l.all fun c => !long c) = true := by
          rw [hlong] at hlg
          simpa using hlg
        have hg : good l = true := by
          rw [hnot] at hr
          rw [hgood, hnl, show l.all right = true by simpa using hr, decide_eq_true h255'']
          rfl
        rw [hlg] at cl
        have hb := hb0 hg
        -- the Builder, and the list's length
        obtain ⟨v1, h1, r1, b0, b2, bs⟩ := byte1_run F (n + 297) (n + 299) l.length (H.new.push (.cells [.pnil, .snil] 59 0 0)) (by simp [H.get_push, new_size]) (by simp [new_size])
        have hwl : IntKind.u8.wrap (l.length : Int) = l.length := IntWalk.u8_in _ (by omega)
        have main : ∀ e0 : Env, e0.get (ix 5) = .ptr 0 0 2 → e0.get (ix 25) = v → e0.get (ix 26) = .int .i64 l.length → e0.get (ix 27) = .int .i64 0 →
            ∃ h', leave [.tmp (ix 2), .tmp (ix 3)] (andThen (atEnd 1 (runCode C (callN C (n + 300)) (fuel + 300) (.loop (loopIn Fn.ef5)) e0 h1)) (runCode C (callN C (n + 300)) (fuel + 300) (.seq (.region [
              ⟨(some (ix 47)), .call 21 [(.tmp (ix 5))], none⟩,
              ⟨(some (ix 2)), .move (.tmp (ix 47)), none⟩,
              ⟨(some (ix 3)), .move (.const (.int .i64 0)), none⟩]) .ret))) = .ok (.tup [.str (packL l), .int .i64 0]) h' := by
          intro e0 e5 e25 e26 e27
          obtain ⟨env', h', r, B, k5⟩ := pack_loop F hk (n + 292) (fuel + 295) l v hv (by omega) l [] e0 h1 [l.length] (fuel + 300) rfl hnl (by simp; omega) ⟨b0, b2, by omega⟩ e5 e25 e26 e27 (by omega)
          have hp : [l.length] ++ l.flatMap packCh = packL l := rfl
          rw [hp] at B
          have hlen : (packL l).length ≤ 1099511627776 := by
            have : ∀ m : List Ch, (m.all fun c => !long c) = true → (m.flatMap packCh).length ≤ m.length * 8209 := by
              intro m
              induction m with
              | nil => simp
              | cons c m ih =>
                intro hm
                simp only [List.all_cons, Bool.and_eq_true, Bool.not_eq_true'] at hm
                have h1 := packCh_length c hm.1
                have h2 := ih hm.2
                rw [List.flatMap_cons, List.length_append, List.length_cons]
                omega
            have := this l hnl
            simp only [packL, List.length_cons]
            omega
          obtain ⟨h'', r''⟩ := string_run (C := C) (n + 299) (n + 299) (packL l) h' hb (by simp [packL]) hlen B.c B.r B.s
          rw [code_loop, r]
          simp [code_seq, code_region, code_block, ops_cons, ops_nil, runOp, simpleOp, R.bind_ok, args1, args2, env_set, put_none, opd_tmp, opd_const, gs, V.cells?, andThen_normal, andThen_ret, andThen_exit, atEnd_normal, atEnd_ret, atEnd_exit, readAt, writeAt, H.get_push, H.get_put, H.size_push, H.size_put, new_size, nbeq, nble, nblt, o2r, mkVal, fillP, setL, cut, V.okCell, binop, unop, code_cond, code_skip, code_ret, code_exit, leave_ret, leave_normal, resultsOf, resultOf, asNat, optNat, code_draw, draw_cons, draw_nil, drawn_ok, drawEnd_ok, back_get, back_size, back_mark, norm_get, norm_size, norm_mark, norm_wr, ok_all, pairOk, wrOk, apartOk, footOf, foot, H.wr_put, H.wr_push, H.mark_put, H.mark_push, sliceCells, lenV, back_norm, back_norm_push, back_norm_put, k5, c21, r'']
        simp only [loopIn, loopOf, Option.getD_some, Option.getD_none, Option.or_some, Option.none_or, Option.some_or, Fn.ef5] at main
        cases hv with
        | nil =>
          have r1' := r1
          have hwl' := hwl
          have main' := main
          simp only [List.length_nil, Int.natCast_zero] at r1' hwl' main'
          simp [code_seq, code_region, code_block, ops_cons, ops_nil, runOp, simpleOp, R.bind_ok, args1, args2, env_set, put_none, opd_tmp, opd_const, gs, V.cells?, andThen_normal, andThen_ret, andThen_exit, atEnd_normal, atEnd_ret, atEnd_exit, readAt, writeAt, H.get_push, H.get_put, H.size_push, H.size_put, new_size, nbeq, nble, nblt, o2r, mkVal, fillP, setL, cut, V.okCell, binop, unop, code_cond, code_skip, code_ret, code_exit, leave_ret, leave_normal, resultsOf, resultOf, asNat, optNat, code_draw, draw_cons, draw_nil, drawn_ok, drawEnd_ok, back_get, back_size, back_mark, norm_get, norm_size, norm_mark, norm_wr, ok_all, pairOk, wrOk, apartOk, footOf, foot, H.wr_put, H.wr_push, H.mark_put, H.mark_push, sliceCells, lenV, back_norm, back_norm_push, back_norm_put, Fn.ef5, packS, packE, hg, c15, cw, cl, hr, hlg, c18, hwl', r1']
          refine main' _ ?_ ?_ ?_ ?_ <;> simp [code_seq, code_region, code_block, ops_cons, ops_nil, runOp, simpleOp, R.bind_ok, args1, args2, env_set, put_none, opd_tmp, opd_const, gs, V.cells?, andThen_normal, andThen_ret, andThen_exit, atEnd_normal, atEnd_ret, atEnd_exit, readAt, writeAt, H.get_push, H.get_put, H.size_push, H.size_put, new_size, nbeq, nble, nblt, o2r, mkVal, fillP, setL, cut, V.okCell, binop, unop, code_cond, code_skip, code_ret, code_exit, leave_ret, leave_normal, resultsOf, resultOf, asNat, optNat, code_draw, draw_cons, draw_nil, drawn_ok, drawEnd_ok, back_get, back_size, back_mark, norm_get, norm_size, norm_mark, norm_wr, ok_all, pairOk, wrOk, apartOk, footOf, foot, H.wr_put, H.wr_push, H.mark_put, H.mark_push, sliceCells, lenV, back_norm, back_norm_push, back_norm_put]
        | some l ex =>
          simp only [slV] at cw cl main ⊢
          simp [code_seq, code_region, code_block, ops_cons, ops_nil, runOp, simpleOp, R.bind_ok, args1, args2, env_set, put_none, opd_tmp, opd_const, gs, V.cells?, andThen_normal, andThen_ret, andThen_exit, atEnd_normal, atEnd_ret, atEnd_exit, readAt, writeAt, H.get_push, H.get_put, H.size_push, H.size_put, new_size, nbeq, nble, nblt, o2r, mkVal, fillP, setL, cut, V.okCell, binop, unop, code_cond, code_skip, code_ret, code_exit, leave_ret, leave_normal, resultsOf, resultOf, asNat, optNat, code_draw, draw_cons, draw_nil, drawn_ok, drawEnd_ok, back_get, back_size, back_mark, norm_get, norm_size, norm_mark, norm_wr, ok_all, pairOk, wrOk, apartOk, footOf, foot, H.wr_put, H.wr_push, H.mark_put, H.mark_push, sliceCells, lenV, back_norm, back_norm_push, back_norm_put, Fn.ef5, packS, packE, h255, h255', hg, c15, cw, cl, hr, hlg, c18, hwl, r1]
          refine main _ ?_ ?_ ?_ ?_ <;> simp [code_seq, code_region, code_block, ops_cons, ops_nil, runOp, simpleOp, R.bind_ok, args1, args2, env_set, put_none, opd_tmp, opd_const, gs, V.cells?, andThen_normal, andThen_ret, andThen_exit, atEnd_normal, atEnd_ret, atEnd_exit, readAt, writeAt, H.get_push, H.get_put, H.size_push, H.size_put, new_size, nbeq, nble, nblt, o2r, mkVal, fillP, setL, cut, V.okCell, binop, unop, code_cond, code_skip, code_ret, code_exit, leave_ret, leave_normal, resultsOf, resultOf, asNat, optNat, code_draw, draw_cons, draw_nil, drawn_ok, drawEnd_ok, back_get, back_size, back_mark, norm_get, norm_size, norm_mark, norm_wr, ok_all, pairOk, wrOk, apartOk, footOf, foot, H.wr_put, H.wr_push, H.mark_put, H.mark_push, sliceCells, lenV, back_norm, back_norm_push, back_norm_put]
end
end Go.E
