/- The types of the seat; netlabref20.EqBools on the abstract heap. -/
import Derived.Test.YtnejoceplinjpaaAb23
import Derived.Test.YtnejoceplinjpaaS1Plans
import Derived.Test.YtnejoceplinjpaaProg
import Derived.KernelRfl
import Derived.IntWalk
set_option linter.unusedSimpArgs false
set_option linter.unusedVariables false
namespace Go.Ab.S1
open Go.Proofs

theorem mixed : Try.prog.follows .mixedOrders = true := by kernel_rfl
theorem info3 : ∃ i, Try.prog.info? 3 = some i ∧ i.size = 1 ∧ i.bytes = 8 ∧ i.zero = some (.int .i64 0) := ⟨(Try.prog.info? 3).get (by kernel_rfl), by kernel_rfl, by kernel_rfl, by kernel_rfl, by kernel_rfl⟩
theorem info4 : ∃ i, Try.prog.info? 4 = some i ∧ i.size = 1 ∧ i.bytes = 1 ∧ i.zero = some (.bool false) := ⟨(Try.prog.info? 4).get (by kernel_rfl), by kernel_rfl, by kernel_rfl, by kernel_rfl, by kernel_rfl⟩
theorem t22 : SlT Try.prog 22 3 8 (.int .i64 0) := ⟨Try.underlying22, info3, ⟨_, Try.underlying3, rfl⟩, rfl, rfl, rfl⟩
theorem t23 : SlT Try.prog 23 4 1 (.bool false) := ⟨Try.underlying23, info4, ⟨_, Try.underlying4, rfl⟩, rfl, rfl, rfl⟩
theorem sl22 : Sl1 Try.prog 22 3 := t22.sl1
theorem sl23 : Sl1 Try.prog 23 4 := t23.sl1

theorem eqBools {h : AH} {v1 v2 : Value} {xs ys : List Bool} (h1 : SlOf h v1 (xs.map .bool)) (h2 : SlOf h v2 (ys.map .bool)) (hbig : xs.length < 4611686018427387904) :
    ACall Try.prog 12 [v1, v2] h (fun v h' => v = .bool (decide (xs = ys)) ∧ h' = h) := by
  refine ACall.of_wp 26 [.tmp 4] Try.func12 rfl (by kernel_rfl) rfl rfl fun a hn hd ha => ?_
  have l1 := h1.len Try.underlying23
  have l2 := h2.len Try.underlying23
  have h0 := ha 0
  have h1' := ha 1
  simp only [List.getD_cons_zero, List.getD_cons_succ] at h0 h1'
  simp only [wpA_skip, wpA_ret, wpA_exit, wpA_seq, wpA_block, wpA_cond, wpA_region, wpA_draw, wpA_loop, thenQ_normal, thenQ_ret, thenQ_exit, blockQ_normal, blockQ_ret, blockQ_exit, condV_true, condV_false, opsM_nil, opsM_cons, seqM, okB, Keeps_nil, contK_app, List.zip_cons_cons, List.zip_nil_left, List.zip_nil_right, Op.operands, Call.operands, Array.toList_append, List.append_nil, List.nil_append, List.all_cons, List.all_nil, cOK, plain, put_n, put_tm, put_none, put_df, ev_tmp, ev_const, ev_func, wanted_none, wanted_some, callR_func, dop, ex_some1, aBuiltin, aBin, intBin, aUn, Option.map_some, Bool.and_true, Bool.true_and, Bool.and_self, true_and, and_true, List.map_cons, List.map_nil, List.toList_toArray, List.getElem?_toArray, List.getElem?_cons_zero, List.getElem?_cons_succ, Option.getD_some, Option.getD_none, if_true, if_false, Bool.false_eq_true, eq_self_iff_true, reduceIte, Nat.reduceLT, Nat.reduceEqDiff, decide_true, decide_false, List.cons_append, aExtract, bodyR_ret, bodyR_normal, resL, resV, List.getD_cons_zero, List.getD_cons_succ, List.getD_nil, Nat.succ_ne_self, reduceCtorEq, hn, hd, h0, h1', l1, l2, List.length_map]
  refine condV_of (fun hne => ?_) (fun heq => ?_)
  · have : xs ≠ ys := fun e => by subst e; simp at hne
    simp only [wpA_skip, wpA_ret, wpA_exit, wpA_seq, wpA_block, wpA_cond, wpA_region, wpA_draw, wpA_loop, thenQ_normal, thenQ_ret, thenQ_exit, blockQ_normal, blockQ_ret, blockQ_exit, condV_true, condV_false, opsM_nil, opsM_cons, seqM, okB, Keeps_nil, contK_app, List.zip_cons_cons, List.zip_nil_left, List.zip_nil_right, Op.operands, Call.operands, Array.toList_append, List.append_nil, List.nil_append, List.all_cons, List.all_nil, cOK, plain, put_n, put_tm, put_none, put_df, ev_tmp, ev_const, ev_func, wanted_none, wanted_some, callR_func, dop, ex_some1, aBuiltin, aBin, intBin, aUn, Option.map_some, Bool.and_true, Bool.true_and, Bool.and_self, true_and, and_true, List.map_cons, List.map_nil, List.toList_toArray, List.getElem?_toArray, List.getElem?_cons_zero, List.getElem?_cons_succ, Option.getD_some, Option.getD_none, if_true, if_false, Bool.false_eq_true, eq_self_iff_true, reduceIte, Nat.reduceLT, Nat.reduceEqDiff, decide_true, decide_false, List.cons_append, aExtract, bodyR_ret, bodyR_normal, resL, resV, List.getD_cons_zero, List.getD_cons_succ, List.getD_nil, Nat.succ_ne_self, reduceCtorEq, hn, hd, this]
  · have hl : xs.length = ys.length := by
      have : (xs.length : Int) = ys.length := by simpa using heq
      omega
    simp only [wpA_skip, wpA_ret, wpA_exit, wpA_seq, wpA_block, wpA_cond, wpA_region, wpA_draw, wpA_loop, thenQ_normal, thenQ_ret, thenQ_exit, blockQ_normal, blockQ_ret, blockQ_exit, condV_true, condV_false, opsM_nil, opsM_cons, seqM, okB, Keeps_nil, contK_app, List.zip_cons_cons, List.zip_nil_left, List.zip_nil_right, Op.operands, Call.operands, Array.toList_append, List.append_nil, List.nil_append, List.all_cons, List.all_nil, cOK, plain, put_n, put_tm, put_none, put_df, ev_tmp, ev_const, ev_func, wanted_none, wanted_some, callR_func, dop, ex_some1, aBuiltin, aBin, intBin, aUn, Option.map_some, Bool.and_true, Bool.true_and, Bool.and_self, true_and, and_true, List.map_cons, List.map_nil, List.toList_toArray, List.getElem?_toArray, List.getElem?_cons_zero, List.getElem?_cons_succ, Option.getD_some, Option.getD_none, if_true, if_false, Bool.false_eq_true, eq_self_iff_true, reduceIte, Nat.reduceLT, Nat.reduceEqDiff, decide_true, decide_false, List.cons_append, aExtract, bodyR_ret, bodyR_normal, resL, resV, List.getD_cons_zero, List.getD_cons_succ, List.getD_nil, Nat.succ_ne_self, reduceCtorEq, hn, hd]
    refine AW.loop (fun m a' h' => h' = h ∧ a'.n = 26 ∧ a'.df = [] ∧ a'.tm 0 = v1 ∧ a'.tm 1 = v2 ∧ ∃ i : Nat, a'.tm 5 = .int .i64 i ∧ i + m = xs.length ∧ ∀ j : Nat, j < i → xs[j]? = ys[j]?) xs.length ?_ ?_
    · refine ⟨rfl, by simp only [put_n, hn], by simp only [put_df, hd], by simp [put_tm, h0], by simp [put_tm, h1'], 0, by simp [put_tm], by omega, fun j hj => by omega⟩
    · rintro m a' h' ⟨rfl, hn, hd, h0, h1', i, h5, him, hall⟩
      refine wpA_sound _ _ _ _ ?_
      simp only [wpA_skip, wpA_ret, wpA_exit, wpA_seq, wpA_block, wpA_cond, wpA_region, wpA_draw, wpA_loop, thenQ_normal, thenQ_ret, thenQ_exit, blockQ_normal, blockQ_ret, blockQ_exit, condV_true, condV_false, opsM_nil, opsM_cons, seqM, okB, Keeps_nil, contK_app, List.zip_cons_cons, List.zip_nil_left, List.zip_nil_right, Op.operands, Call.operands, Array.toList_append, List.append_nil, List.nil_append, List.all_cons, List.all_nil, cOK, plain, put_n, put_tm, put_none, put_df, ev_tmp, ev_const, ev_func, wanted_none, wanted_some, callR_func, dop, ex_some1, aBuiltin, aBin, intBin, aUn, Option.map_some, Bool.and_true, Bool.true_and, Bool.and_self, true_and, and_true, List.map_cons, List.map_nil, List.toList_toArray, List.getElem?_toArray, List.getElem?_cons_zero, List.getElem?_cons_succ, Option.getD_some, Option.getD_none, if_true, if_false, Bool.false_eq_true, eq_self_iff_true, reduceIte, Nat.reduceLT, Nat.reduceEqDiff, decide_true, decide_false, List.cons_append, aExtract, bodyR_ret, bodyR_normal, resL, resV, List.getD_cons_zero, List.getD_cons_succ, List.getD_nil, Nat.succ_ne_self, reduceCtorEq, hn, hd, h0, h1', h5, l1, l2, List.length_map]
      refine condV_of (fun hlt => ?_) (fun hge => ?_)
      · have hi : i < xs.length := by simpa using hlt
        obtain ⟨q1, e1, e2⟩ := h1.at sl23 (k := .i64) (i := i) (x := .bool xs[i]) (by simp [hi])
        obtain ⟨q2, e3, e4⟩ := h2.at sl23 (k := .i64) (i := i) (x := .bool (ys[i]'(hl ▸ hi))) (by simp [hl ▸ hi])
        refine AW.drawT (.take 0 [8, 3, 2] (.take 1 [8, 3, 2] (.take 2 [8, 3] (.take 3 [8] (.take 4 [8, 7, 6] (.take 5 [8, 7, 6] (.take 6 [8, 7] (.take 7 [8] (.take 8 [] .done))))))))) [0, 0, 0, 0, 0, 0, 0, 0, 0] mixed (by kernel_rfl) (by kernel_rfl) ?_
        simp only [wpA_skip, wpA_ret, wpA_exit, wpA_seq, wpA_block, wpA_cond, wpA_region, wpA_draw, wpA_loop, thenQ_normal, thenQ_ret, thenQ_exit, blockQ_normal, blockQ_ret, blockQ_exit, condV_true, condV_false, opsM_nil, opsM_cons, seqM, okB, Keeps_nil, contK_app, List.zip_cons_cons, List.zip_nil_left, List.zip_nil_right, Op.operands, Call.operands, Array.toList_append, List.append_nil, List.nil_append, List.all_cons, List.all_nil, cOK, plain, put_n, put_tm, put_none, put_df, ev_tmp, ev_const, ev_func, wanted_none, wanted_some, callR_func, dop, ex_some1, aBuiltin, aBin, intBin, aUn, Option.map_some, Bool.and_true, Bool.true_and, Bool.and_self, true_and, and_true, List.map_cons, List.map_nil, List.toList_toArray, List.getElem?_toArray, List.getElem?_cons_zero, List.getElem?_cons_succ, Option.getD_some, Option.getD_none, if_true, if_false, Bool.false_eq_true, eq_self_iff_true, reduceIte, Nat.reduceLT, Nat.reduceEqDiff, decide_true, decide_false, List.cons_append, aExtract, bodyR_ret, bodyR_normal, resL, resV, List.getD_cons_zero, List.getD_cons_succ, List.getD_nil, Nat.succ_ne_self, reduceCtorEq, hn, hd, h0, h1', h5, e1, e2, e3, e4, eqBin_bool_neq Try.underlying4]
        refine condV_of (fun hne => ?_) (fun heq => ?_)
        · have : xs ≠ ys := fun e => by subst e; simp at hne
          simp only [wpA_skip, wpA_ret, wpA_exit, wpA_seq, wpA_block, wpA_cond, wpA_region, wpA_draw, wpA_loop, thenQ_normal, thenQ_ret, thenQ_exit, blockQ_normal, blockQ_ret, blockQ_exit, condV_true, condV_false, opsM_nil, opsM_cons, seqM, okB, Keeps_nil, contK_app, List.zip_cons_cons, List.zip_nil_left, List.zip_nil_right, Op.operands, Call.operands, Array.toList_append, List.append_nil, List.nil_append, List.all_cons, List.all_nil, cOK, plain, put_n, put_tm, put_none, put_df, ev_tmp, ev_const, ev_func, wanted_none, wanted_some, callR_func, dop, ex_some1, aBuiltin, aBin, intBin, aUn, Option.map_some, Bool.and_true, Bool.true_and, Bool.and_self, true_and, and_true, List.map_cons, List.map_nil, List.toList_toArray, List.getElem?_toArray, List.getElem?_cons_zero, List.getElem?_cons_succ, Option.getD_some, Option.getD_none, if_true, if_false, Bool.false_eq_true, eq_self_iff_true, reduceIte, Nat.reduceLT, Nat.reduceEqDiff, decide_true, decide_false, List.cons_append, aExtract, bodyR_ret, bodyR_normal, resL, resV, List.getD_cons_zero, List.getD_cons_succ, List.getD_nil, Nat.succ_ne_self, reduceCtorEq, hn, hd, this]
        · have hw : IntKind.i64.wrap ((i : Int) + 1) = ((i + 1 : Nat) : Int) := by rw [Go.IntWalk.i64_in _ (by omega)]; omega
          simp only [wpA_skip, wpA_ret, wpA_exit, wpA_seq, wpA_block, wpA_cond, wpA_region, wpA_draw, wpA_loop, thenQ_normal, thenQ_ret, thenQ_exit, blockQ_normal, blockQ_ret, blockQ_exit, condV_true, condV_false, opsM_nil, opsM_cons, seqM, okB, Keeps_nil, contK_app, List.zip_cons_cons, List.zip_nil_left, List.zip_nil_right, Op.operands, Call.operands, Array.toList_append, List.append_nil, List.nil_append, List.all_cons, List.all_nil, cOK, plain, put_n, put_tm, put_none, put_df, ev_tmp, ev_const, ev_func, wanted_none, wanted_some, callR_func, dop, ex_some1, aBuiltin, aBin, intBin, aUn, Option.map_some, Bool.and_true, Bool.true_and, Bool.and_self, true_and, and_true, List.map_cons, List.map_nil, List.toList_toArray, List.getElem?_toArray, List.getElem?_cons_zero, List.getElem?_cons_succ, Option.getD_some, Option.getD_none, if_true, if_false, Bool.false_eq_true, eq_self_iff_true, reduceIte, Nat.reduceLT, Nat.reduceEqDiff, decide_true, decide_false, List.cons_append, aExtract, bodyR_ret, bodyR_normal, resL, resV, List.getD_cons_zero, List.getD_cons_succ, List.getD_nil, Nat.succ_ne_self, reduceCtorEq, hn, hd, h0, h1', h5, hw]
          refine ⟨m - 1, by omega, i + 1, rfl, by omega, fun j hj => ?_⟩
          by_cases e : j = i
          · subst e
            have : xs[j] = ys[j]'(hl ▸ hi) := by simpa using heq
            rw [List.getElem?_eq_getElem hi, List.getElem?_eq_getElem (hl ▸ hi), this]
          · exact hall j (by omega)
      · have hge : xs.length ≤ i := by simpa using hge
        have he : xs = ys := by
          apply List.ext_getElem?
          intro j
          by_cases hj : j < i
          · exact hall j hj
          · rw [List.getElem?_eq_none (by omega), List.getElem?_eq_none (by omega)]
        simp only [wpA_skip, wpA_ret, wpA_exit, wpA_seq, wpA_block, wpA_cond, wpA_region, wpA_draw, wpA_loop, thenQ_normal, thenQ_ret, thenQ_exit, blockQ_normal, blockQ_ret, blockQ_exit, condV_true, condV_false, opsM_nil, opsM_cons, seqM, okB, Keeps_nil, contK_app, List.zip_cons_cons, List.zip_nil_left, List.zip_nil_right, Op.operands, Call.operands, Array.toList_append, List.append_nil, List.nil_append, List.all_cons, List.all_nil, cOK, plain, put_n, put_tm, put_none, put_df, ev_tmp, ev_const, ev_func, wanted_none, wanted_some, callR_func, dop, ex_some1, aBuiltin, aBin, intBin, aUn, Option.map_some, Bool.and_true, Bool.true_and, Bool.and_self, true_and, and_true, List.map_cons, List.map_nil, List.toList_toArray, List.getElem?_toArray, List.getElem?_cons_zero, List.getElem?_cons_succ, Option.getD_some, Option.getD_none, if_true, if_false, Bool.false_eq_true, eq_self_iff_true, reduceIte, Nat.reduceLT, Nat.reduceEqDiff, decide_true, decide_false, List.cons_append, aExtract, bodyR_ret, bodyR_normal, resL, resV, List.getD_cons_zero, List.getD_cons_succ, List.getD_nil, Nat.succ_ne_self, reduceCtorEq, hn, hd, he]
end Go.Ab.S1
