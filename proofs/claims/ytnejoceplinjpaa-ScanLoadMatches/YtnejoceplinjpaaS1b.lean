/- slices.Clone at []int, scan.permutation and scan.chain on the abstract heap. -/
import Derived.Test.YtnejoceplinjpaaS1a
import Derived.Test.YtnejoceplinjpaaS1Sort
import Derived.Test.YtnejoceplinjpaaAb22
import Derived.Shelf.SortM.Plain
import Derived.Shelf.SortM.SortNone
import Derived.Ground.SlgmProg
set_option linter.unusedSimpArgs false
set_option linter.unusedVariables false
namespace Go.Ab.S1
open Go.Proofs

set_option maxRecDepth 100000 in
theorem cloneInts {h : AH} {v : Value} {zs : List Int} (hv : SlOf h v (zs.map (.int .i64))) (hb : zs.length ≤ 4294967296) :
    ACall Try.prog 33 [v] h (fun r h' => Sub h h' ∧ ((zs = [] ∧ ∃ p c, r = .slice p 0 c ∧ ∀ q, p = some q → q.spot = none) ∨
      (zs ≠ [] ∧ ∃ A, h.next ≤ A ∧ r = .slice (some ⟨A, 0, none⟩) zs.length (SL + 1) ∧ h'.get A = some (.grow (zs.map (.int .i64)) 3)))) := by
  refine ACall.wf ⟨_, Try.func33, rfl, by kernel_rfl⟩ fun hwf => ?_
  refine ACall.of_wp 8 [.tmp 2] Try.func33 rfl (by kernel_rfl) rfl rfl fun a hn hd ha => ?_
  have h0 := ha 0
  simp only [List.getD_cons_zero, List.getD_cons_succ] at h0
  have hsrc := hv.src
  obtain ⟨p, l, c, rfl, hl, hsp, _⟩ := id hv
  simp only [wpA_skip, wpA_ret, wpA_exit, wpA_seq, wpA_block, wpA_cond, wpA_region, wpA_draw, wpA_loop, thenQ_normal, thenQ_ret, thenQ_exit, blockQ_normal, blockQ_ret, blockQ_exit, condV_true, condV_false, opsM_nil, opsM_cons, seqM, okB, Keeps_nil, contK_app, List.zip_cons_cons, List.zip_nil_left, List.zip_nil_right, Op.operands, Call.operands, Array.toList_append, List.append_nil, List.nil_append, List.all_cons, List.all_nil, cOK, plain, put_n, put_tm, put_none, put_df, ev_tmp, ev_const, ev_func, wanted_none, wanted_some, callR_func, dop, ex_some1, aBuiltin, aBin, intBin, aUn, Option.map_some, Bool.and_true, Bool.true_and, Bool.and_self, true_and, and_true, List.map_cons, List.map_nil, List.toList_toArray, List.getElem?_toArray, List.getElem?_cons_zero, List.getElem?_cons_succ, Option.getD_some, Option.getD_none, if_true, if_false, Bool.false_eq_true, eq_self_iff_true, reduceIte, Nat.reduceLT, Nat.reduceEqDiff, decide_true, decide_false, List.cons_append, aExtract, bodyR_ret, bodyR_normal, resL, resV, List.getD_cons_zero, List.getD_cons_succ, List.getD_nil, Nat.succ_ne_self, reduceCtorEq, hn, hd, h0, eqBin_nil Try.underlying22]
  cases p with
  | none =>
    have hz : zs = [] := by
      rcases hv with ⟨p', l', c', e, hl', _, hcs⟩
      cases e
      rcases hcs with e | ⟨A, off, o, cs, e, _⟩
      · simpa using e
      · cases e
    subst hz
    simp only [wpA_skip, wpA_ret, wpA_exit, wpA_seq, wpA_block, wpA_cond, wpA_region, wpA_draw, wpA_loop, thenQ_normal, thenQ_ret, thenQ_exit, blockQ_normal, blockQ_ret, blockQ_exit, condV_true, condV_false, opsM_nil, opsM_cons, seqM, okB, Keeps_nil, contK_app, List.zip_cons_cons, List.zip_nil_left, List.zip_nil_right, Op.operands, Call.operands, Array.toList_append, List.append_nil, List.nil_append, List.all_cons, List.all_nil, cOK, plain, put_n, put_tm, put_none, put_df, ev_tmp, ev_const, ev_func, wanted_none, wanted_some, callR_func, dop, ex_some1, aBuiltin, aBin, intBin, aUn, Option.map_some, Bool.and_true, Bool.true_and, Bool.and_self, true_and, and_true, List.map_cons, List.map_nil, List.toList_toArray, List.getElem?_toArray, List.getElem?_cons_zero, List.getElem?_cons_succ, Option.getD_some, Option.getD_none, if_true, if_false, Bool.false_eq_true, eq_self_iff_true, reduceIte, Nat.reduceLT, Nat.reduceEqDiff, decide_true, decide_false, List.cons_append, aExtract, bodyR_ret, bodyR_normal, resL, resV, List.getD_cons_zero, List.getD_cons_succ, List.getD_nil, Nat.succ_ne_self, reduceCtorEq, Option.isNone_none, hn, hd]
    exact ⟨fun _ _ x => x, .inl ⟨none, 0, rfl, fun q e => by cases e⟩⟩
  | some q =>
    simp only [wpA_skip, wpA_ret, wpA_exit, wpA_seq, wpA_block, wpA_cond, wpA_region, wpA_draw, wpA_loop, thenQ_normal, thenQ_ret, thenQ_exit, blockQ_normal, blockQ_ret, blockQ_exit, condV_true, condV_false, opsM_nil, opsM_cons, seqM, okB, Keeps_nil, contK_app, List.zip_cons_cons, List.zip_nil_left, List.zip_nil_right, Op.operands, Call.operands, Array.toList_append, List.append_nil, List.nil_append, List.all_cons, List.all_nil, cOK, plain, put_n, put_tm, put_none, put_df, ev_tmp, ev_const, ev_func, wanted_none, wanted_some, callR_func, dop, ex_some1, aBuiltin, aBin, intBin, aUn, Option.map_some, Bool.and_true, Bool.true_and, Bool.and_self, true_and, and_true, List.map_cons, List.map_nil, List.toList_toArray, List.getElem?_toArray, List.getElem?_cons_zero, List.getElem?_cons_succ, Option.getD_some, Option.getD_none, if_true, if_false, Bool.false_eq_true, eq_self_iff_true, reduceIte, Nat.reduceLT, Nat.reduceEqDiff, decide_true, decide_false, List.cons_append, aExtract, bodyR_ret, bodyR_normal, resL, resV, List.getD_cons_zero, List.getD_cons_succ, List.getD_nil, Nat.succ_ne_self, reduceCtorEq, Option.isNone_some, hn, hd, h0, aBuildSlice_empty t22]
    by_cases hz : zs = []
    · subst hz
      rw [List.map_nil] at hsrc
      have hs1 : srcCells 1 (.slice (some q) l c) (h.new (.row [] 3 true)) = some (0, []) := by
        have hl0 : l = 0 := by simpa using hl
        subst hl0
        obtain ⟨B, o, sp⟩ := q
        have : sp = none := hsp _ rfl
        subst this; rfl
      simp only [aAppend_none t22 hs1, wpA_skip, wpA_ret, wpA_exit, wpA_seq, wpA_block, wpA_cond, wpA_region, wpA_draw, wpA_loop, thenQ_normal, thenQ_ret, thenQ_exit, blockQ_normal, blockQ_ret, blockQ_exit, condV_true, condV_false, opsM_nil, opsM_cons, seqM, okB, Keeps_nil, contK_app, List.zip_cons_cons, List.zip_nil_left, List.zip_nil_right, Op.operands, Call.operands, Array.toList_append, List.append_nil, List.nil_append, List.all_cons, List.all_nil, cOK, plain, put_n, put_tm, put_none, put_df, ev_tmp, ev_const, ev_func, wanted_none, wanted_some, callR_func, dop, ex_some1, aBuiltin, aBin, intBin, aUn, Option.map_some, Bool.and_true, Bool.true_and, Bool.and_self, true_and, and_true, List.map_cons, List.map_nil, List.toList_toArray, List.getElem?_toArray, List.getElem?_cons_zero, List.getElem?_cons_succ, Option.getD_some, Option.getD_none, if_true, if_false, Bool.false_eq_true, eq_self_iff_true, reduceIte, Nat.reduceLT, Nat.reduceEqDiff, decide_true, decide_false, List.cons_append, aExtract, bodyR_ret, bodyR_normal, resL, resV, List.getD_cons_zero, List.getD_cons_succ, List.getD_nil, Nat.succ_ne_self, reduceCtorEq, hn, hd, h0]
      exact ⟨Sub.new hwf _, .inl ⟨_, _, rfl, fun q e => by cases e; rfl⟩⟩
    · have hv' := hv.sub (Sub.new hwf (.row [] 3 true))
      have hs1 := hv'.src
      have hz' : zs.map (Value.int .i64) ≠ [] := by simpa using hz
      have hg : (h.new (.row [] 3 true)).get h.next = some (.row [] 3 true) := by simp [AH.new_get]
      have happ := aAppend_first t22 hg hs1 hz' (by simp; omega) (by simp [ML]; omega)
      simp only [happ, wpA_skip, wpA_ret, wpA_exit, wpA_seq, wpA_block, wpA_cond, wpA_region, wpA_draw, wpA_loop, thenQ_normal, thenQ_ret, thenQ_exit, blockQ_normal, blockQ_ret, blockQ_exit, condV_true, condV_false, opsM_nil, opsM_cons, seqM, okB, Keeps_nil, contK_app, List.zip_cons_cons, List.zip_nil_left, List.zip_nil_right, Op.operands, Call.operands, Array.toList_append, List.append_nil, List.nil_append, List.all_cons, List.all_nil, cOK, plain, put_n, put_tm, put_none, put_df, ev_tmp, ev_const, ev_func, wanted_none, wanted_some, callR_func, dop, ex_some1, aBuiltin, aBin, intBin, aUn, Option.map_some, Bool.and_true, Bool.true_and, Bool.and_self, true_and, and_true, List.map_cons, List.map_nil, List.toList_toArray, List.getElem?_toArray, List.getElem?_cons_zero, List.getElem?_cons_succ, Option.getD_some, Option.getD_none, if_true, if_false, Bool.false_eq_true, eq_self_iff_true, reduceIte, Nat.reduceLT, Nat.reduceEqDiff, decide_true, decide_false, List.cons_append, aExtract, bodyR_ret, bodyR_normal, resL, resV, List.getD_cons_zero, List.getD_cons_succ, List.getD_nil, Nat.succ_ne_self, reduceCtorEq, hn, hd, h0]
      have hwf2 : WFH (h.new (.row [] 3 true)) := by
        intro A hA
        simp only [AH.new_next] at hA
        rw [AH.new_get, if_neg (by omega)]
        exact hwf A (by omega)
      refine ⟨fun A o x => Sub.new hwf2 _ A o (Sub.new hwf _ A o x), .inr ⟨hz, h.next + 1, by omega, by simp, by simp [AH.new_get]⟩⟩

end Go.Ab.S1
namespace Go.Ab.S1
open Go.Proofs

theorem sorts : SortsInts Try.prog 51 := ⟨⟨_, Try.func51, rfl, by kernel_rfl⟩, fun blk off cap zs w h1 h2 h3 => AnyM.slices_Sort_int Try.sortA blk off cap zs w h1 h2 h3, fun p cap w => AnyM.slices_Sort_int_none Try.sortA p cap w⟩

def sortL (zs : List Int) : List Int := zs.mergeSort fun x y => decide (x ≤ y)

theorem sortCloned {h h2 : AH} {r : Value} {zs : List Int} (hwf : WFH h) (hb : zs.length ≤ 4294967296) (hsub : Sub h h2) (hr : (zs = [] ∧ ∃ p c, r = .slice p 0 c ∧ ∀ q, p = some q → q.spot = none) ∨
      (zs ≠ [] ∧ ∃ A, h.next ≤ A ∧ r = .slice (some ⟨A, 0, none⟩) zs.length (SL + 1) ∧ h2.get A = some (.grow (zs.map (.int .i64)) 3))) :
    ACall Try.prog 51 [r] h2 (fun v h3 => Sub h h3 ∧ SlOf h3 r ((sortL zs).map (.int .i64))) := by
  rcases hr with ⟨rfl, p, c, rfl, hsp⟩ | ⟨hz, A, hA, rfl, hg⟩
  · refine ACall.mono ?_ (sortNone sorts)
    rintro v h3 ⟨_, rfl⟩
    exact ⟨hsub, p, 0, c, rfl, by simp [sortL], hsp, .inl (by simp [sortL])⟩
  · refine ACall.mono ?_ (sortInts sorts hg hz (by omega))
    rintro v h3 ⟨_, rfl⟩
    refine ⟨fun B o hB => ?_, some ⟨A, 0, none⟩, zs.length, _, rfl, by simp [sortL], fun q e => by cases e; rfl, .inr ⟨A, 0, .grow ((sortL zs).map (.int .i64)) 3, _, rfl, ?_, rfl, fun i x hx => by rw [Nat.zero_add]; exact hx⟩⟩
    · rw [AH.set_get, if_neg]
      · exact hsub B o hB
      · intro e; subst e; rw [hwf _ hA] at hB; cases hB
    · simp [AH.set_get, sortL]

/-- The order is one of 0 to n - 1. -/
def IsPerm (zs : List Int) : Prop := ∀ i : Nat, i < zs.length → (sortL zs)[i]? = some (i : Int)

instance (zs : List Int) : Decidable (IsPerm zs) := inferInstanceAs (Decidable (∀ i : Nat, i < zs.length → (sortL zs)[i]? = some (i : Int)))

set_option maxRecDepth 100000 in
theorem permutation {h : AH} {v : Value} {zs : List Int} {n : Int} (hv : SlOf h v (zs.map (.int .i64))) (hb : zs.length ≤ 4294967296) :
    ACall Try.prog 40 [v, .int .i64 n] h (fun r h' => r = .bool (decide (IsPerm zs ∧ (zs.length : Int) = n)) ∧ Sub h h') := by
  refine ACall.wf ⟨_, Try.func40, rfl, by kernel_rfl⟩ fun hwf => ?_
  refine ACall.of_wp 27 [.tmp 4] Try.func40 rfl (by kernel_rfl) rfl rfl fun a hn hd ha => ?_
  have h0 := ha 0
  have h1 := ha 1
  simp only [List.getD_cons_zero, List.getD_cons_succ] at h0 h1
  simp only [wpA_skip, wpA_ret, wpA_exit, wpA_seq, wpA_block, wpA_cond, wpA_region, wpA_draw, wpA_loop, thenQ_normal, thenQ_ret, thenQ_exit, blockQ_normal, blockQ_ret, blockQ_exit, condV_true, condV_false, opsM_nil, opsM_cons, seqM, okB, Keeps_nil, contK_app, List.zip_cons_cons, List.zip_nil_left, List.zip_nil_right, Op.operands, Call.operands, Array.toList_append, List.append_nil, List.nil_append, List.all_cons, List.all_nil, cOK, plain, put_n, put_tm, put_none, put_df, ev_tmp, ev_const, ev_func, wanted_none, wanted_some, callR_func, dop, ex_some1, aBuiltin, aBin, intBin, aUn, Option.map_some, Bool.and_true, Bool.true_and, Bool.and_self, true_and, and_true, List.map_cons, List.map_nil, List.toList_toArray, List.getElem?_toArray, List.getElem?_cons_zero, List.getElem?_cons_succ, Option.getD_some, Option.getD_none, if_true, if_false, Bool.false_eq_true, eq_self_iff_true, reduceIte, Nat.reduceLT, Nat.reduceEqDiff, decide_true, decide_false, List.cons_append, aExtract, bodyR_ret, bodyR_normal, resL, resV, List.getD_cons_zero, List.getD_cons_succ, List.getD_nil, Nat.succ_ne_self, reduceCtorEq, hn, hd, h0, h1]
  refine ACall.mono ?_ (cloneInts hv hb)
  rintro r h2 ⟨hsub, hr⟩
  simp only [wpA_skip, wpA_ret, wpA_exit, wpA_seq, wpA_block, wpA_cond, wpA_region, wpA_draw, wpA_loop, thenQ_normal, thenQ_ret, thenQ_exit, blockQ_normal, blockQ_ret, blockQ_exit, condV_true, condV_false, opsM_nil, opsM_cons, seqM, okB, Keeps_nil, contK_app, List.zip_cons_cons, List.zip_nil_left, List.zip_nil_right, Op.operands, Call.operands, Array.toList_append, List.append_nil, List.nil_append, List.all_cons, List.all_nil, cOK, plain, put_n, put_tm, put_none, put_df, ev_tmp, ev_const, ev_func, wanted_none, wanted_some, callR_func, dop, ex_some1, aBuiltin, aBin, intBin, aUn, Option.map_some, Bool.and_true, Bool.true_and, Bool.and_self, true_and, and_true, List.map_cons, List.map_nil, List.toList_toArray, List.getElem?_toArray, List.getElem?_cons_zero, List.getElem?_cons_succ, Option.getD_some, Option.getD_none, if_true, if_false, Bool.false_eq_true, eq_self_iff_true, reduceIte, Nat.reduceLT, Nat.reduceEqDiff, decide_true, decide_false, List.cons_append, aExtract, bodyR_ret, bodyR_normal, resL, resV, List.getD_cons_zero, List.getD_cons_succ, List.getD_nil, Nat.succ_ne_self, reduceCtorEq, hn, hd, h0, h1]
  refine ACall.mono ?_ (sortCloned hwf hb hsub hr)
  rintro _ h3 ⟨hsub3, hs3⟩
  have hv3 := hv.sub hsub3
  have l3 := hs3.len Try.underlying22
  have l0 := hv3.len Try.underlying22
  have hsl : (sortL zs).length = zs.length := by simp [sortL]
  simp only [wpA_skip, wpA_ret, wpA_exit, wpA_seq, wpA_block, wpA_cond, wpA_region, wpA_draw, wpA_loop, thenQ_normal, thenQ_ret, thenQ_exit, blockQ_normal, blockQ_ret, blockQ_exit, condV_true, condV_false, opsM_nil, opsM_cons, seqM, okB, Keeps_nil, contK_app, List.zip_cons_cons, List.zip_nil_left, List.zip_nil_right, Op.operands, Call.operands, Array.toList_append, List.append_nil, List.nil_append, List.all_cons, List.all_nil, cOK, plain, put_n, put_tm, put_none, put_df, ev_tmp, ev_const, ev_func, wanted_none, wanted_some, callR_func, dop, ex_some1, aBuiltin, aBin, intBin, aUn, Option.map_some, Bool.and_true, Bool.true_and, Bool.and_self, true_and, and_true, List.map_cons, List.map_nil, List.toList_toArray, List.getElem?_toArray, List.getElem?_cons_zero, List.getElem?_cons_succ, Option.getD_some, Option.getD_none, if_true, if_false, Bool.false_eq_true, eq_self_iff_true, reduceIte, Nat.reduceLT, Nat.reduceEqDiff, decide_true, decide_false, List.cons_append, aExtract, bodyR_ret, bodyR_normal, resL, resV, List.getD_cons_zero, List.getD_cons_succ, List.getD_nil, Nat.succ_ne_self, reduceCtorEq, hn, hd, h0, h1, l3, l0, List.length_map, hsl]
  refine AW.loop (fun m a' h' => h' = h3 ∧ a'.n = 27 ∧ a'.df = [] ∧ a'.tm 0 = v ∧ a'.tm 1 = .int .i64 n ∧ a'.tm 12 = r ∧ a'.tm 13 = .int .i64 zs.length ∧
      ∃ i : Nat, a'.tm 14 = .int .i64 i ∧ i + m = zs.length ∧ ∀ j : Nat, j < i → (sortL zs)[j]? = some (j : Int)) zs.length ?_ ?_
  · refine ⟨rfl, by simp only [put_n, hn], by simp only [put_df, hd], by simp [put_tm, h0], by simp [put_tm, h1], by simp [put_tm], by simp [put_tm], 0, by simp [put_tm], by omega, fun j hj => by omega⟩
  · rintro m a' h' ⟨rfl, hn, hd, h0, h1, h12, h13, i, h14, him, hall⟩
    refine wpA_sound _ _ _ _ ?_
    simp only [wpA_skip, wpA_ret, wpA_exit, wpA_seq, wpA_block, wpA_cond, wpA_region, wpA_draw, wpA_loop, thenQ_normal, thenQ_ret, thenQ_exit, blockQ_normal, blockQ_ret, blockQ_exit, condV_true, condV_false, opsM_nil, opsM_cons, seqM, okB, Keeps_nil, contK_app, List.zip_cons_cons, List.zip_nil_left, List.zip_nil_right, Op.operands, Call.operands, Array.toList_append, List.append_nil, List.nil_append, List.all_cons, List.all_nil, cOK, plain, put_n, put_tm, put_none, put_df, ev_tmp, ev_const, ev_func, wanted_none, wanted_some, callR_func, dop, ex_some1, aBuiltin, aBin, intBin, aUn, Option.map_some, Bool.and_true, Bool.true_and, Bool.and_self, true_and, and_true, List.map_cons, List.map_nil, List.toList_toArray, List.getElem?_toArray, List.getElem?_cons_zero, List.getElem?_cons_succ, Option.getD_some, Option.getD_none, if_true, if_false, Bool.false_eq_true, eq_self_iff_true, reduceIte, Nat.reduceLT, Nat.reduceEqDiff, decide_true, decide_false, List.cons_append, aExtract, bodyR_ret, bodyR_normal, resL, resV, List.getD_cons_zero, List.getD_cons_succ, List.getD_nil, Nat.succ_ne_self, reduceCtorEq, hn, hd, h0, h1, h12, h13, h14]
    refine condV_of (fun hlt => ?_) (fun hge => ?_)
    · have hi : i < zs.length := by simpa using hlt
      have hi' : i < (sortL zs).length := by omega
      obtain ⟨q1, e1, e2⟩ := hs3.at sl22 (k := .i64) (i := i) (x := .int .i64 (sortL zs)[i]) (by simp [hi'])
      simp only [wpA_skip, wpA_ret, wpA_exit, wpA_seq, wpA_block, wpA_cond, wpA_region, wpA_draw, wpA_loop, thenQ_normal, thenQ_ret, thenQ_exit, blockQ_normal, blockQ_ret, blockQ_exit, condV_true, condV_false, opsM_nil, opsM_cons, seqM, okB, Keeps_nil, contK_app, List.zip_cons_cons, List.zip_nil_left, List.zip_nil_right, Op.operands, Call.operands, Array.toList_append, List.append_nil, List.nil_append, List.all_cons, List.all_nil, cOK, plain, put_n, put_tm, put_none, put_df, ev_tmp, ev_const, ev_func, wanted_none, wanted_some, callR_func, dop, ex_some1, aBuiltin, aBin, intBin, aUn, Option.map_some, Bool.and_true, Bool.true_and, Bool.and_self, true_and, and_true, List.map_cons, List.map_nil, List.toList_toArray, List.getElem?_toArray, List.getElem?_cons_zero, List.getElem?_cons_succ, Option.getD_some, Option.getD_none, if_true, if_false, Bool.false_eq_true, eq_self_iff_true, reduceIte, Nat.reduceLT, Nat.reduceEqDiff, decide_true, decide_false, List.cons_append, aExtract, bodyR_ret, bodyR_normal, resL, resV, List.getD_cons_zero, List.getD_cons_succ, List.getD_nil, Nat.succ_ne_self, reduceCtorEq, hn, hd, h0, h1, h12, h13, h14, e1, e2]
      refine condV_of (fun hne => ?_) (fun heq => ?_)
      · have hnp : ¬ (IsPerm zs ∧ (zs.length : Int) = n) := by
          rintro ⟨hp, _⟩
          have := hp i hi
          rw [List.getElem?_eq_getElem hi'] at this
          have e : (sortL zs)[i] = (i : Int) := by simpa using this
          rw [e] at hne; simp at hne
        simp only [wpA_skip, wpA_ret, wpA_exit, wpA_seq, wpA_block, wpA_cond, wpA_region, wpA_draw, wpA_loop, thenQ_normal, thenQ_ret, thenQ_exit, blockQ_normal, blockQ_ret, blockQ_exit, condV_true, condV_false, opsM_nil, opsM_cons, seqM, okB, Keeps_nil, contK_app, List.zip_cons_cons, List.zip_nil_left, List.zip_nil_right, Op.operands, Call.operands, Array.toList_append, List.append_nil, List.nil_append, List.all_cons, List.all_nil, cOK, plain, put_n, put_tm, put_none, put_df, ev_tmp, ev_const, ev_func, wanted_none, wanted_some, callR_func, dop, ex_some1, aBuiltin, aBin, intBin, aUn, Option.map_some, Bool.and_true, Bool.true_and, Bool.and_self, true_and, and_true, List.map_cons, List.map_nil, List.toList_toArray, List.getElem?_toArray, List.getElem?_cons_zero, List.getElem?_cons_succ, Option.getD_some, Option.getD_none, if_true, if_false, Bool.false_eq_true, eq_self_iff_true, reduceIte, Nat.reduceLT, Nat.reduceEqDiff, decide_true, decide_false, List.cons_append, aExtract, bodyR_ret, bodyR_normal, resL, resV, List.getD_cons_zero, List.getD_cons_succ, List.getD_nil, Nat.succ_ne_self, reduceCtorEq, hn, hd, h0, h1, hnp]
        exact hsub3
      · have heq' : (sortL zs)[i] = (i : Int) := by simpa using heq
        have hw : IntKind.i64.wrap ((i : Int) + 1) = ((i + 1 : Nat) : Int) := by rw [Go.IntWalk.i64_in _ (by omega)]; omega
        simp only [wpA_skip, wpA_ret, wpA_exit, wpA_seq, wpA_block, wpA_cond, wpA_region, wpA_draw, wpA_loop, thenQ_normal, thenQ_ret, thenQ_exit, blockQ_normal, blockQ_ret, blockQ_exit, condV_true, condV_false, opsM_nil, opsM_cons, seqM, okB, Keeps_nil, contK_app, List.zip_cons_cons, List.zip_nil_left, List.zip_nil_right, Op.operands, Call.operands, Array.toList_append, List.append_nil, List.nil_append, List.all_cons, List.all_nil, cOK, plain, put_n, put_tm, put_none, put_df, ev_tmp, ev_const, ev_func, wanted_none, wanted_some, callR_func, dop, ex_some1, aBuiltin, aBin, intBin, aUn, Option.map_some, Bool.and_true, Bool.true_and, Bool.and_self, true_and, and_true, List.map_cons, List.map_nil, List.toList_toArray, List.getElem?_toArray, List.getElem?_cons_zero, List.getElem?_cons_succ, Option.getD_some, Option.getD_none, if_true, if_false, Bool.false_eq_true, eq_self_iff_true, reduceIte, Nat.reduceLT, Nat.reduceEqDiff, decide_true, decide_false, List.cons_append, aExtract, bodyR_ret, bodyR_normal, resL, resV, List.getD_cons_zero, List.getD_cons_succ, List.getD_nil, Nat.succ_ne_self, reduceCtorEq, hn, hd, h0, h1, h12, h13, h14, hw]
        refine ⟨m - 1, by omega, i + 1, rfl, by omega, fun j hj => ?_⟩
        by_cases e : j = i
        · subst e; rw [List.getElem?_eq_getElem hi', heq']
        · exact hall j (by omega)
    · have hge : zs.length ≤ i := by simpa using hge
      have hp : IsPerm zs := fun j hj => hall j (by omega)
      simp only [wpA_skip, wpA_ret, wpA_exit, wpA_seq, wpA_block, wpA_cond, wpA_region, wpA_draw, wpA_loop, thenQ_normal, thenQ_ret, thenQ_exit, blockQ_normal, blockQ_ret, blockQ_exit, condV_true, condV_false, opsM_nil, opsM_cons, seqM, okB, Keeps_nil, contK_app, List.zip_cons_cons, List.zip_nil_left, List.zip_nil_right, Op.operands, Call.operands, Array.toList_append, List.append_nil, List.nil_append, List.all_cons, List.all_nil, cOK, plain, put_n, put_tm, put_none, put_df, ev_tmp, ev_const, ev_func, wanted_none, wanted_some, callR_func, dop, ex_some1, aBuiltin, aBin, intBin, aUn, Option.map_some, Bool.and_true, Bool.true_and, Bool.and_self, true_and, and_true, List.map_cons, List.map_nil, List.toList_toArray, List.getElem?_toArray, List.getElem?_cons_zero, List.getElem?_cons_succ, Option.getD_some, Option.getD_none, if_true, if_false, Bool.false_eq_true, eq_self_iff_true, reduceIte, Nat.reduceLT, Nat.reduceEqDiff, decide_true, decide_false, List.cons_append, aExtract, bodyR_ret, bodyR_normal, resL, resV, List.getD_cons_zero, List.getD_cons_succ, List.getD_nil, Nat.succ_ne_self, reduceCtorEq, hn, hd, h0, h1, l0, List.length_map]
      refine ⟨?_, hsub3⟩
      simp only [hp, true_and]
      rfl
end Go.Ab.S1
