/- Permutations, plainly; scan.chain, scan.Load and scan.Unload on the abstract heap. -/
import Derived.Test.YtnejoceplinjpaaS1b
set_option linter.unusedSimpArgs false
set_option linter.unusedVariables false
namespace Go.Ab.S1
open Go.Proofs

theorem sortL_perm (zs : List Int) : (sortL zs).Perm zs := List.mergeSort_perm zs _
theorem sortL_len (zs : List Int) : (sortL zs).length = zs.length := by simp [sortL]

theorem IsPerm.range {zs : List Int} (hp : IsPerm zs) {z : Int} (hz : z ∈ zs) : ∃ i : Nat, i < zs.length ∧ z = i := by
  have h1 : z ∈ sortL zs := (sortL_perm zs).mem_iff.2 hz
  obtain ⟨i, hi, e⟩ := List.getElem_of_mem h1
  have hi' : i < zs.length := by rw [← sortL_len]; exact hi
  have := hp i hi'
  rw [List.getElem?_eq_getElem hi] at this
  exact ⟨i, hi', by rw [← e]; simpa using this⟩

theorem IsPerm.nodup {zs : List Int} (hp : IsPerm zs) : zs.Nodup := by
  refine (sortL_perm zs).nodup_iff.1 ?_
  rw [List.nodup_iff_pairwise_ne, List.pairwise_iff_getElem]
  intro i j hi hj hij e
  have h1 := hp i (by rw [← sortL_len]; exact hi)
  have h2 := hp j (by rw [← sortL_len]; exact hj)
  rw [List.getElem?_eq_getElem hi] at h1
  rw [List.getElem?_eq_getElem hj] at h2
  simp only [Option.some.injEq] at h1 h2
  omega

theorem IsPerm.inj {zs : List Int} (hp : IsPerm zs) {i j : Nat} {z : Int} (hi : zs[i]? = some z) (hj : zs[j]? = some z) : i = j := by
  obtain ⟨h1, e1⟩ := List.getElem?_eq_some_iff.1 hi
  obtain ⟨h2, e2⟩ := List.getElem?_eq_some_iff.1 hj
  have hn := hp.nodup
  rw [List.nodup_iff_pairwise_ne, List.pairwise_iff_getElem] at hn
  rcases Nat.lt_trichotomy i j with h | h | h
  · exact absurd (e1.trans e2.symm) (hn i j h1 h2 h)
  · exact h
  · exact absurd (e2.trans e1.symm) (hn j i h2 h1 h)

theorem IsPerm.onto {zs : List Int} (hp : IsPerm zs) {j : Nat} (hj : j < zs.length) : ∃ k : Nat, zs[k]? = some (j : Int) := by
  have h1 := hp j hj
  have hm : (j : Int) ∈ sortL zs := List.mem_of_getElem? h1
  exact List.getElem?_of_mem ((sortL_perm zs).mem_iff.1 hm)

def chainE (zs : List Int) (k : Nat) : Int := if IsPerm zs then (if k = zs.length then 0 else 12) else 1

set_option maxRecDepth 100000 in
theorem chain {h : AH} {v : Value} {zs : List Int} {k : Nat} (hv : SlOf h v (zs.map (.int .i64))) (hb : zs.length ≤ 4294967296) :
    ACall Try.prog 26 [v, .int .i64 k] h (fun r h' => r = .int .i64 (chainE zs k) ∧ Sub h h') := by
  refine ACall.of_wp 16 [.tmp 4] Try.func26 rfl (by kernel_rfl) rfl rfl fun a hn hd ha => ?_
  have h0 := ha 0
  have h1 := ha 1
  have l0 := hv.len Try.underlying22
  simp only [List.getD_cons_zero, List.getD_cons_succ] at h0 h1
  simp only [wpA_skip, wpA_ret, wpA_exit, wpA_seq, wpA_block, wpA_cond, wpA_region, wpA_draw, wpA_loop, thenQ_normal, thenQ_ret, thenQ_exit, blockQ_normal, blockQ_ret, blockQ_exit, condV_true, condV_false, opsM_nil, opsM_cons, seqM, okB, Keeps_nil, contK_app, List.zip_cons_cons, List.zip_nil_left, List.zip_nil_right, Op.operands, Call.operands, Array.toList_append, List.append_nil, List.nil_append, List.all_cons, List.all_nil, cOK, plain, put_n, put_tm, put_none, put_df, ev_tmp, ev_const, ev_func, wanted_none, wanted_some, callR_func, dop, ex_some1, aBuiltin, aBin, intBin, aUn, Option.map_some, Bool.and_true, Bool.true_and, Bool.and_self, true_and, and_true, List.map_cons, List.map_nil, List.toList_toArray, List.getElem?_toArray, List.getElem?_cons_zero, List.getElem?_cons_succ, Option.getD_some, Option.getD_none, if_true, if_false, Bool.false_eq_true, eq_self_iff_true, reduceIte, Nat.reduceLT, Nat.reduceEqDiff, decide_true, decide_false, List.cons_append, aExtract, bodyR_ret, bodyR_normal, resL, resV, List.getD_cons_zero, List.getD_cons_succ, List.getD_nil, Nat.succ_ne_self, reduceCtorEq, hn, hd, h0, h1, l0, List.length_map]
  refine ACall.mono ?_ (permutation hv hb)
  rintro r h2 ⟨rfl, hsub⟩
  have l2 := (hv.sub hsub).len Try.underlying22
  by_cases hp : IsPerm zs
  · simp only [wpA_skip, wpA_ret, wpA_exit, wpA_seq, wpA_block, wpA_cond, wpA_region, wpA_draw, wpA_loop, thenQ_normal, thenQ_ret, thenQ_exit, blockQ_normal, blockQ_ret, blockQ_exit, condV_true, condV_false, opsM_nil, opsM_cons, seqM, okB, Keeps_nil, contK_app, List.zip_cons_cons, List.zip_nil_left, List.zip_nil_right, Op.operands, Call.operands, Array.toList_append, List.append_nil, List.nil_append, List.all_cons, List.all_nil, cOK, plain, put_n, put_tm, put_none, put_df, ev_tmp, ev_const, ev_func, wanted_none, wanted_some, callR_func, dop, ex_some1, aBuiltin, aBin, intBin, aUn, Option.map_some, Bool.and_true, Bool.true_and, Bool.and_self, true_and, and_true, List.map_cons, List.map_nil, List.toList_toArray, List.getElem?_toArray, List.getElem?_cons_zero, List.getElem?_cons_succ, Option.getD_some, Option.getD_none, if_true, if_false, Bool.false_eq_true, eq_self_iff_true, reduceIte, Nat.reduceLT, Nat.reduceEqDiff, decide_true, decide_false, List.cons_append, aExtract, bodyR_ret, bodyR_normal, resL, resV, List.getD_cons_zero, List.getD_cons_succ, List.getD_nil, Nat.succ_ne_self, reduceCtorEq, hn, hd, h0, h1, l2, List.length_map, hp, Bool.not_true]
    refine condV_of (fun hne => ?_) (fun heq => ?_)
    · have : k ≠ zs.length := fun e => by subst e; simp at hne
      simp only [wpA_skip, wpA_ret, wpA_exit, wpA_seq, wpA_block, wpA_cond, wpA_region, wpA_draw, wpA_loop, thenQ_normal, thenQ_ret, thenQ_exit, blockQ_normal, blockQ_ret, blockQ_exit, condV_true, condV_false, opsM_nil, opsM_cons, seqM, okB, Keeps_nil, contK_app, List.zip_cons_cons, List.zip_nil_left, List.zip_nil_right, Op.operands, Call.operands, Array.toList_append, List.append_nil, List.nil_append, List.all_cons, List.all_nil, cOK, plain, put_n, put_tm, put_none, put_df, ev_tmp, ev_const, ev_func, wanted_none, wanted_some, callR_func, dop, ex_some1, aBuiltin, aBin, intBin, aUn, Option.map_some, Bool.and_true, Bool.true_and, Bool.and_self, true_and, and_true, List.map_cons, List.map_nil, List.toList_toArray, List.getElem?_toArray, List.getElem?_cons_zero, List.getElem?_cons_succ, Option.getD_some, Option.getD_none, if_true, if_false, Bool.false_eq_true, eq_self_iff_true, reduceIte, Nat.reduceLT, Nat.reduceEqDiff, decide_true, decide_false, List.cons_append, aExtract, bodyR_ret, bodyR_normal, resL, resV, List.getD_cons_zero, List.getD_cons_succ, List.getD_nil, Nat.succ_ne_self, reduceCtorEq, hn, hd, h0, h1, chainE, hp, this]
      exact hsub
    · have : k = zs.length := by
        have : (k : Int) = zs.length := by simpa using heq
        omega
      simp only [wpA_skip, wpA_ret, wpA_exit, wpA_seq, wpA_block, wpA_cond, wpA_region, wpA_draw, wpA_loop, thenQ_normal, thenQ_ret, thenQ_exit, blockQ_normal, blockQ_ret, blockQ_exit, condV_true, condV_false, opsM_nil, opsM_cons, seqM, okB, Keeps_nil, contK_app, List.zip_cons_cons, List.zip_nil_left, List.zip_nil_right, Op.operands, Call.operands, Array.toList_append, List.append_nil, List.nil_append, List.all_cons, List.all_nil, cOK, plain, put_n, put_tm, put_none, put_df, ev_tmp, ev_const, ev_func, wanted_none, wanted_some, callR_func, dop, ex_some1, aBuiltin, aBin, intBin, aUn, Option.map_some, Bool.and_true, Bool.true_and, Bool.and_self, true_and, and_true, List.map_cons, List.map_nil, List.toList_toArray, List.getElem?_toArray, List.getElem?_cons_zero, List.getElem?_cons_succ, Option.getD_some, Option.getD_none, if_true, if_false, Bool.false_eq_true, eq_self_iff_true, reduceIte, Nat.reduceLT, Nat.reduceEqDiff, decide_true, decide_false, List.cons_append, aExtract, bodyR_ret, bodyR_normal, resL, resV, List.getD_cons_zero, List.getD_cons_succ, List.getD_nil, Nat.succ_ne_self, reduceCtorEq, hn, hd, h0, h1, chainE, hp, this]
      exact hsub
  · simp only [wpA_skip, wpA_ret, wpA_exit, wpA_seq, wpA_block, wpA_cond, wpA_region, wpA_draw, wpA_loop, thenQ_normal, thenQ_ret, thenQ_exit, blockQ_normal, blockQ_ret, blockQ_exit, condV_true, condV_false, opsM_nil, opsM_cons, seqM, okB, Keeps_nil, contK_app, List.zip_cons_cons, List.zip_nil_left, List.zip_nil_right, Op.operands, Call.operands, Array.toList_append, List.append_nil, List.nil_append, List.all_cons, List.all_nil, cOK, plain, put_n, put_tm, put_none, put_df, ev_tmp, ev_const, ev_func, wanted_none, wanted_some, callR_func, dop, ex_some1, aBuiltin, aBin, intBin, aUn, Option.map_some, Bool.and_true, Bool.true_and, Bool.and_self, true_and, and_true, List.map_cons, List.map_nil, List.toList_toArray, List.getElem?_toArray, List.getElem?_cons_zero, List.getElem?_cons_succ, Option.getD_some, Option.getD_none, if_true, if_false, Bool.false_eq_true, eq_self_iff_true, reduceIte, Nat.reduceLT, Nat.reduceEqDiff, decide_true, decide_false, List.cons_append, aExtract, bodyR_ret, bodyR_normal, resL, resV, List.getD_cons_zero, List.getD_cons_succ, List.getD_nil, Nat.succ_ne_self, reduceCtorEq, hn, hd, h0, h1, l2, List.length_map, hp, false_and, Bool.not_false, chainE]
    exact hsub


/-- What Load hands back. -/
def IsLoad (zs : List Int) (bs out : List Bool) : Prop := out.length = zs.length ∧ ∀ k z, zs[k]? = some z → out[zs.length - 1 - k]? = bs[z.toNat]?
/-- What Unload hands back. -/
def IsUnload (zs : List Int) (bs out : List Bool) : Prop := out.length = zs.length ∧ ∀ k z, zs[k]? = some z → out[z.toNat]? = bs[zs.length - 1 - k]?

def LoadPost (R : List Int → List Bool → List Bool → Prop) (zs : List Int) (bs : List Bool) (h : AH) (r : Value) (h' : AH) : Prop :=
  Sub h h' ∧ ((chainE zs bs.length ≠ 0 ∧ r = .tuple #[.slice none 0 0, .int .i64 (chainE zs bs.length)]) ∨
    (chainE zs bs.length = 0 ∧ ∃ u out, r = .tuple #[u, .int .i64 0] ∧ R zs bs out ∧ SlOf h' u (out.map .bool)))

theorem chainE_zero {zs : List Int} {k : Nat} (h : chainE zs k = 0) : IsPerm zs ∧ k = zs.length := by
  unfold chainE at h
  split at h
  · rename_i hp
    split at h
    · rename_i hk; exact ⟨hp, hk⟩
    · omega
  · omega

set_option maxRecDepth 100000 in
theorem load {h : AH} {v1 v2 : Value} {zs : List Int} {bs : List Bool} (hv : SlOf h v1 (zs.map (.int .i64))) (hw : SlOf h v2 (bs.map .bool)) (hb : zs.length ≤ 4294967296) :
    ACall Try.prog 10 [v1, v2] h (LoadPost IsLoad zs bs h) := by
  refine ACall.wf ⟨_, Try.func10, rfl, by kernel_rfl⟩ fun hwf => ?_
  refine ACall.of_wp 40 [.tmp 4, .tmp 5] Try.func10 rfl (by kernel_rfl) rfl rfl fun a hn hd ha => ?_
  have h0 := ha 0
  have h1 := ha 1
  have l1 := hw.len Try.underlying23
  simp only [List.getD_cons_zero, List.getD_cons_succ] at h0 h1
  simp only [wpA_skip, wpA_ret, wpA_exit, wpA_seq, wpA_block, wpA_cond, wpA_region, wpA_draw, wpA_loop, thenQ_normal, thenQ_ret, thenQ_exit, blockQ_normal, blockQ_ret, blockQ_exit, condV_true, condV_false, opsM_nil, opsM_cons, seqM, okB, Keeps_nil, contK_app, List.zip_cons_cons, List.zip_nil_left, List.zip_nil_right, Op.operands, Call.operands, Array.toList_append, List.append_nil, List.nil_append, List.all_cons, List.all_nil, cOK, plain, put_n, put_tm, put_none, put_df, ev_tmp, ev_const, ev_func, wanted_none, wanted_some, callR_func, dop, ex_some1, aBuiltin, aBin, intBin, aUn, Option.map_some, Bool.and_true, Bool.true_and, Bool.and_self, true_and, and_true, List.map_cons, List.map_nil, List.toList_toArray, List.getElem?_toArray, List.getElem?_cons_zero, List.getElem?_cons_succ, Option.getD_some, Option.getD_none, if_true, if_false, Bool.false_eq_true, eq_self_iff_true, reduceIte, Nat.reduceLT, Nat.reduceEqDiff, decide_true, decide_false, List.cons_append, aExtract, bodyR_ret, bodyR_normal, resL, resV, List.getD_cons_zero, List.getD_cons_succ, List.getD_nil, Nat.succ_ne_self, reduceCtorEq, hn, hd, h0, h1, l1, List.length_map]
  refine ACall.mono ?_ (ACall.wfPost (chain (k := bs.length) hv hb))
  rintro r h2 ⟨⟨rfl, hsub⟩, hwf2⟩
  have hv2 := hv.sub hsub
  have l2 := hv2.len Try.underlying22
  by_cases hc : chainE zs bs.length = 0
  · obtain ⟨hp, hk⟩ := chainE_zero hc
    have hmk := aMakeSlice_at t23 h2 zs.length (by omega) (by omega)
    simp only [wpA_skip, wpA_ret, wpA_exit, wpA_seq, wpA_block, wpA_cond, wpA_region, wpA_draw, wpA_loop, thenQ_normal, thenQ_ret, thenQ_exit, blockQ_normal, blockQ_ret, blockQ_exit, condV_true, condV_false, opsM_nil, opsM_cons, seqM, okB, Keeps_nil, contK_app, List.zip_cons_cons, List.zip_nil_left, List.zip_nil_right, Op.operands, Call.operands, Array.toList_append, List.append_nil, List.nil_append, List.all_cons, List.all_nil, cOK, plain, put_n, put_tm, put_none, put_df, ev_tmp, ev_const, ev_func, wanted_none, wanted_some, callR_func, dop, ex_some1, aBuiltin, aBin, intBin, aUn, Option.map_some, Bool.and_true, Bool.true_and, Bool.and_self, true_and, and_true, List.map_cons, List.map_nil, List.toList_toArray, List.getElem?_toArray, List.getElem?_cons_zero, List.getElem?_cons_succ, Option.getD_some, Option.getD_none, if_true, if_false, Bool.false_eq_true, eq_self_iff_true, reduceIte, Nat.reduceLT, Nat.reduceEqDiff, decide_true, decide_false, List.cons_append, aExtract, bodyR_ret, bodyR_normal, resL, resV, List.getD_cons_zero, List.getD_cons_succ, List.getD_nil, Nat.succ_ne_self, reduceCtorEq, hn, hd, h0, h1, l2, List.length_map, hc, hmk, bne_self_eq_false]
    have hsub3 := fun A o x => Sub.new hwf2 (.row (List.replicate zs.length (.bool false)) 4 true) A o (hsub A o x)
    have l3 := (hv.sub hsub3).len Try.underlying22
    simp only [wpA_skip, wpA_ret, wpA_exit, wpA_seq, wpA_block, wpA_cond, wpA_region, wpA_draw, wpA_loop, thenQ_normal, thenQ_ret, thenQ_exit, blockQ_normal, blockQ_ret, blockQ_exit, condV_true, condV_false, opsM_nil, opsM_cons, seqM, okB, Keeps_nil, contK_app, List.zip_cons_cons, List.zip_nil_left, List.zip_nil_right, Op.operands, Call.operands, Array.toList_append, List.append_nil, List.nil_append, List.all_cons, List.all_nil, cOK, plain, put_n, put_tm, put_none, put_df, ev_tmp, ev_const, ev_func, wanted_none, wanted_some, callR_func, dop, ex_some1, aBuiltin, aBin, intBin, aUn, Option.map_some, Bool.and_true, Bool.true_and, Bool.and_self, true_and, and_true, List.map_cons, List.map_nil, List.toList_toArray, List.getElem?_toArray, List.getElem?_cons_zero, List.getElem?_cons_succ, Option.getD_some, Option.getD_none, if_true, if_false, Bool.false_eq_true, eq_self_iff_true, reduceIte, Nat.reduceLT, Nat.reduceEqDiff, decide_true, decide_false, List.cons_append, aExtract, bodyR_ret, bodyR_normal, resL, resV, List.getD_cons_zero, List.getD_cons_succ, List.getD_nil, Nat.succ_ne_self, reduceCtorEq, hn, hd, h0, h1, l3, List.length_map]
    have hA : h.get h2.next = none := by
      cases e : h.get h2.next with
      | none => rfl
      | some o => have := hsub _ _ e; rw [hwf2 _ (Nat.le_refl _)] at this; cases this
    generalize hAe : h2.next = A at *
    refine AW.loop (fun m a' h' => Sub h h' ∧ a'.n = 40 ∧ a'.df = [] ∧ a'.tm 0 = v1 ∧ a'.tm 1 = v2 ∧ a'.tm 7 = .slice (some ⟨A, 0, none⟩) zs.length zs.length ∧ a'.tm 20 = v1 ∧ a'.tm 21 = .int .i64 zs.length ∧
        ∃ (i : Nat) (out : List Bool), a'.tm 22 = .int .i64 i ∧ i + m = zs.length ∧ h'.get A = some (.row (out.map .bool) 4 true) ∧ out.length = zs.length ∧
          ∀ k z, k < i → zs[k]? = some z → out[zs.length - 1 - k]? = bs[z.toNat]?) zs.length ?_ ?_
    · refine ⟨hsub3, by simp only [put_n, hn], by simp only [put_df, hd], by simp [put_tm, h0], by simp [put_tm, h1], by simp [put_tm], by simp [put_tm], by simp [put_tm], 0, List.replicate zs.length false, by simp [put_tm], by omega, by simp [AH.new_get, hAe], by simp, fun k z hk => by omega⟩
    · rintro m a' h' ⟨hs', hn, hd, h0, h1, h7, h20, h21, i, out, h22, him, hg, hlen, hall⟩
      refine wpA_sound _ _ _ _ ?_
      simp only [wpA_skip, wpA_ret, wpA_exit, wpA_seq, wpA_block, wpA_cond, wpA_region, wpA_draw, wpA_loop, thenQ_normal, thenQ_ret, thenQ_exit, blockQ_normal, blockQ_ret, blockQ_exit, condV_true, condV_false, opsM_nil, opsM_cons, seqM, okB, Keeps_nil, contK_app, List.zip_cons_cons, List.zip_nil_left, List.zip_nil_right, Op.operands, Call.operands, Array.toList_append, List.append_nil, List.nil_append, List.all_cons, List.all_nil, cOK, plain, put_n, put_tm, put_none, put_df, ev_tmp, ev_const, ev_func, wanted_none, wanted_some, callR_func, dop, ex_some1, aBuiltin, aBin, intBin, aUn, Option.map_some, Bool.and_true, Bool.true_and, Bool.and_self, true_and, and_true, List.map_cons, List.map_nil, List.toList_toArray, List.getElem?_toArray, List.getElem?_cons_zero, List.getElem?_cons_succ, Option.getD_some, Option.getD_none, if_true, if_false, Bool.false_eq_true, eq_self_iff_true, reduceIte, Nat.reduceLT, Nat.reduceEqDiff, decide_true, decide_false, List.cons_append, aExtract, bodyR_ret, bodyR_normal, resL, resV, List.getD_cons_zero, List.getD_cons_succ, List.getD_nil, Nat.succ_ne_self, reduceCtorEq, hn, hd, h0, h1, h7, h20, h21, h22]
      refine condV_of (fun hlt => ?_) (fun hge => ?_)
      · have hi : i < zs.length := by simpa using hlt
        obtain ⟨z0, hz0, hze⟩ := hp.range (List.getElem_mem hi)
        have hzi : zs[i]? = some ((z0 : Nat) : Int) := by rw [List.getElem?_eq_getElem hi, hze]
        obtain ⟨q1, e1, e2⟩ := (hv.sub hs').at sl22 (k := .i64) (i := i) (x := .int .i64 z0) (by simp [hzi])
        obtain ⟨q2, e3, e4⟩ := (hw.sub hs').at sl23 (k := .i64) (i := z0) (x := .bool (bs[z0]'(by omega))) (by simp [show z0 < bs.length by omega])
        have w1 : IntKind.i64.wrap ((zs.length : Int) - 1) = (zs.length : Int) - 1 := by rw [Go.IntWalk.i64_in _ (by omega)]
        have w2 : IntKind.i64.wrap ((zs.length : Int) - 1 - i) = ((zs.length - 1 - i : Nat) : Int) := by rw [Go.IntWalk.i64_in _ (by omega)]; omega
        have e5 := aIndexAddr_in t23 (A := A) (off := 0) (cap := zs.length) (k := .i64) (n := ((zs.length - 1 - i : Nat) : Int)) rfl (show zs.length - 1 - i < zs.length by omega)
        have hoff : 0 + (zs.length - 1 - i) < (out.map Value.bool).length := by simp; omega
        have e6 := aStore_row t23 (x := .bool (bs[z0]'(by omega))) hg hoff rfl rfl
        have l7 : aLen Try.prog 23 (.slice (some ⟨A, 0, none⟩) zs.length zs.length) h' = some (.int .i64 zs.length) := by simp only [aLen, Try.underlying23]
        have hw3 : IntKind.i64.wrap ((i : Int) + 1) = ((i + 1 : Nat) : Int) := by rw [Go.IntWalk.i64_in _ (by omega)]; omega
        simp only [wpA_skip, wpA_ret, wpA_exit, wpA_seq, wpA_block, wpA_cond, wpA_region, wpA_draw, wpA_loop, thenQ_normal, thenQ_ret, thenQ_exit, blockQ_normal, blockQ_ret, blockQ_exit, condV_true, condV_false, opsM_nil, opsM_cons, seqM, okB, Keeps_nil, contK_app, List.zip_cons_cons, List.zip_nil_left, List.zip_nil_right, Op.operands, Call.operands, Array.toList_append, List.append_nil, List.nil_append, List.all_cons, List.all_nil, cOK, plain, put_n, put_tm, put_none, put_df, ev_tmp, ev_const, ev_func, wanted_none, wanted_some, callR_func, dop, ex_some1, aBuiltin, aBin, intBin, aUn, Option.map_some, Bool.and_true, Bool.true_and, Bool.and_self, true_and, and_true, List.map_cons, List.map_nil, List.toList_toArray, List.getElem?_toArray, List.getElem?_cons_zero, List.getElem?_cons_succ, Option.getD_some, Option.getD_none, if_true, if_false, Bool.false_eq_true, eq_self_iff_true, reduceIte, Nat.reduceLT, Nat.reduceEqDiff, decide_true, decide_false, List.cons_append, aExtract, bodyR_ret, bodyR_normal, resL, resV, List.getD_cons_zero, List.getD_cons_succ, List.getD_nil, Nat.succ_ne_self, reduceCtorEq, hn, hd, h0, h1, h7, h20, h21, h22, e1, e2, e3, e4, l7, w1, w2, e5, e6, hw3]
        refine ⟨m - 1, by omega, fun B o hB => ?_, i + 1, out.set (zs.length - 1 - i) (bs[z0]'(by omega)), rfl, by omega, by simp [AH.set_get, List.map_set], by simp [hlen], fun k z hk hz => ?_⟩
        · rw [AH.set_get, if_neg]
          · exact hs' B o hB
          · intro e; subst e; rw [hA] at hB; cases hB
        · by_cases e : k = i
          · subst e
            rw [hzi] at hz; cases hz
            rw [List.getElem?_set_self (by omega)]
            simp [show z0 < bs.length by omega]
          · have hkz : k < zs.length := (List.getElem?_eq_some_iff.1 hz).1
            rw [List.getElem?_set_ne (by omega)]
            exact hall k z (by omega) hz
      · have hge : zs.length ≤ i := by simpa using hge
        simp only [wpA_skip, wpA_ret, wpA_exit, wpA_seq, wpA_block, wpA_cond, wpA_region, wpA_draw, wpA_loop, thenQ_normal, thenQ_ret, thenQ_exit, blockQ_normal, blockQ_ret, blockQ_exit, condV_true, condV_false, opsM_nil, opsM_cons, seqM, okB, Keeps_nil, contK_app, List.zip_cons_cons, List.zip_nil_left, List.zip_nil_right, Op.operands, Call.operands, Array.toList_append, List.append_nil, List.nil_append, List.all_cons, List.all_nil, cOK, plain, put_n, put_tm, put_none, put_df, ev_tmp, ev_const, ev_func, wanted_none, wanted_some, callR_func, dop, ex_some1, aBuiltin, aBin, intBin, aUn, Option.map_some, Bool.and_true, Bool.true_and, Bool.and_self, true_and, and_true, List.map_cons, List.map_nil, List.toList_toArray, List.getElem?_toArray, List.getElem?_cons_zero, List.getElem?_cons_succ, Option.getD_some, Option.getD_none, if_true, if_false, Bool.false_eq_true, eq_self_iff_true, reduceIte, Nat.reduceLT, Nat.reduceEqDiff, decide_true, decide_false, List.cons_append, aExtract, bodyR_ret, bodyR_normal, resL, resV, List.getD_cons_zero, List.getD_cons_succ, List.getD_nil, Nat.succ_ne_self, reduceCtorEq, hn, hd, h0, h1, h7, h20, h21, h22]
        refine ⟨hs', .inr ⟨hc, _, out, rfl, ⟨hlen, fun k z hz => hall k z ?_ hz⟩, some ⟨A, 0, none⟩, _, _, rfl, by simp [hlen], fun q e => by cases e; rfl, .inr ⟨A, 0, _, _, rfl, hg, rfl, fun j x hx => by rw [Nat.zero_add]; exact hx⟩⟩⟩
        have := (List.getElem?_eq_some_iff.1 hz).1
        omega
  · have hne : (chainE zs bs.length != 0) = true := by simpa using hc
    simp only [wpA_skip, wpA_ret, wpA_exit, wpA_seq, wpA_block, wpA_cond, wpA_region, wpA_draw, wpA_loop, thenQ_normal, thenQ_ret, thenQ_exit, blockQ_normal, blockQ_ret, blockQ_exit, condV_true, condV_false, opsM_nil, opsM_cons, seqM, okB, Keeps_nil, contK_app, List.zip_cons_cons, List.zip_nil_left, List.zip_nil_right, Op.operands, Call.operands, Array.toList_append, List.append_nil, List.nil_append, List.all_cons, List.all_nil, cOK, plain, put_n, put_tm, put_none, put_df, ev_tmp, ev_const, ev_func, wanted_none, wanted_some, callR_func, dop, ex_some1, aBuiltin, aBin, intBin, aUn, Option.map_some, Bool.and_true, Bool.true_and, Bool.and_self, true_and, and_true, List.map_cons, List.map_nil, List.toList_toArray, List.getElem?_toArray, List.getElem?_cons_zero, List.getElem?_cons_succ, Option.getD_some, Option.getD_none, if_true, if_false, Bool.false_eq_true, eq_self_iff_true, reduceIte, Nat.reduceLT, Nat.reduceEqDiff, decide_true, decide_false, List.cons_append, aExtract, bodyR_ret, bodyR_normal, resL, resV, List.getD_cons_zero, List.getD_cons_succ, List.getD_nil, Nat.succ_ne_self, reduceCtorEq, hn, hd, h0, h1, hne]
    exact ⟨hsub, .inl ⟨hc, rfl⟩⟩

set_option maxRecDepth 100000 in
theorem unload {h : AH} {v1 v2 : Value} {zs : List Int} {bs : List Bool} (hv : SlOf h v1 (zs.map (.int .i64))) (hw : SlOf h v2 (bs.map .bool)) (hb : zs.length ≤ 4294967296) :
    ACall Try.prog 11 [v1, v2] h (LoadPost IsUnload zs bs h) := by
  refine ACall.wf ⟨_, Try.func11, rfl, by kernel_rfl⟩ fun hwf => ?_
  refine ACall.of_wp 40 [.tmp 4, .tmp 5] Try.func11 rfl (by kernel_rfl) rfl rfl fun a hn hd ha => ?_
  have h0 := ha 0
  have h1 := ha 1
  have l1 := hw.len Try.underlying23
  simp only [List.getD_cons_zero, List.getD_cons_succ] at h0 h1
  simp only [wpA_skip, wpA_ret, wpA_exit, wpA_seq, wpA_block, wpA_cond, wpA_region, wpA_draw, wpA_loop, thenQ_normal, thenQ_ret, thenQ_exit, blockQ_normal, blockQ_ret, blockQ_exit, condV_true, condV_false, opsM_nil, opsM_cons, seqM, okB, Keeps_nil, contK_app, List.zip_cons_cons, List.zip_nil_left, List.zip_nil_right, Op.operands, Call.operands, Array.toList_append, List.append_nil, List.nil_append, List.all_cons, List.all_nil, cOK, plain, put_n, put_tm, put_none, put_df, ev_tmp, ev_const, ev_func, wanted_none, wanted_some, callR_func, dop, ex_some1, aBuiltin, aBin, intBin, aUn, Option.map_some, Bool.and_true, Bool.true_and, Bool.and_self, true_and, and_true, List.map_cons, List.map_nil, List.toList_toArray, List.getElem?_toArray, List.getElem?_cons_zero, List.getElem?_cons_succ, Option.getD_some, Option.getD_none, if_true, if_false, Bool.false_eq_true, eq_self_iff_true, reduceIte, Nat.reduceLT, Nat.reduceEqDiff, decide_true, decide_false, List.cons_append, aExtract, bodyR_ret, bodyR_normal, resL, resV, List.getD_cons_zero, List.getD_cons_succ, List.getD_nil, Nat.succ_ne_self, reduceCtorEq, hn, hd, h0, h1, l1, List.length_map]
  refine ACall.mono ?_ (ACall.wfPost (chain (k := bs.length) hv hb))
  rintro r h2 ⟨⟨rfl, hsub⟩, hwf2⟩
  have hv2 := hv.sub hsub
  have l2 := hv2.len Try.underlying22
  by_cases hc : chainE zs bs.length = 0
  · obtain ⟨hp, hk⟩ := chainE_zero hc
    have hmk := aMakeSlice_at t23 h2 zs.length (by omega) (by omega)
    simp only [wpA_skip, wpA_ret, wpA_exit, wpA_seq, wpA_block, wpA_cond, wpA_region, wpA_draw, wpA_loop, thenQ_normal, thenQ_ret, thenQ_exit, blockQ_normal, blockQ_ret, blockQ_exit, condV_true, condV_false, opsM_nil, opsM_cons, seqM, okB, Keeps_nil, contK_app, List.zip_cons_cons, List.zip_nil_left, List.zip_nil_right, Op.operands, Call.operands, Array.toList_append, List.append_nil, List.nil_append, List.all_cons, List.all_nil, cOK, plain, put_n, put_tm, put_none, put_df, ev_tmp, ev_const, ev_func, wanted_none, wanted_some, callR_func, dop, ex_some1, aBuiltin, aBin, intBin, aUn, Option.map_some, Bool.and_true, Bool.true_and, Bool.and_self, true_and, and_true, List.map_cons, List.map_nil, List.toList_toArray, List.getElem?_toArray, List.getElem?_cons_zero, List.getElem?_cons_succ, Option.getD_some, Option.getD_none, if_true, if_false, Bool.false_eq_true, eq_self_iff_true, reduceIte, Nat.reduceLT, Nat.reduceEqDiff, decide_true, decide_false, List.cons_append, aExtract, bodyR_ret, bodyR_normal, resL, resV, List.getD_cons_zero, List.getD_cons_succ, List.getD_nil, Nat.succ_ne_self, reduceCtorEq, hn, hd, h0, h1, l2, List.length_map, hc, hmk, bne_self_eq_false]
    have hsub3 := fun A o x => Sub.new hwf2 (.row (List.replicate zs.length (.bool false)) 4 true) A o (hsub A o x)
    have l3 := (hv.sub hsub3).len Try.underlying22
    simp only [wpA_skip, wpA_ret, wpA_exit, wpA_seq, wpA_block, wpA_cond, wpA_region, wpA_draw, wpA_loop, thenQ_normal, thenQ_ret, thenQ_exit, blockQ_normal, blockQ_ret, blockQ_exit, condV_true, condV_false, opsM_nil, opsM_cons, seqM, okB, Keeps_nil, contK_app, List.zip_cons_cons, List.zip_nil_left, List.zip_nil_right, Op.operands, Call.operands, Array.toList_append, List.append_nil, List.nil_append, List.all_cons, List.all_nil, cOK, plain, put_n, put_tm, put_none, put_df, ev_tmp, ev_const, ev_func, wanted_none, wanted_some, callR_func, dop, ex_some1, aBuiltin, aBin, intBin, aUn, Option.map_some, Bool.and_true, Bool.true_and, Bool.and_self, true_and, and_true, List.map_cons, List.map_nil, List.toList_toArray, List.getElem?_toArray, List.getElem?_cons_zero, List.getElem?_cons_succ, Option.getD_some, Option.getD_none, if_true, if_false, Bool.false_eq_true, eq_self_iff_true, reduceIte, Nat.reduceLT, Nat.reduceEqDiff, decide_true, decide_false, List.cons_append, aExtract, bodyR_ret, bodyR_normal, resL, resV, List.getD_cons_zero, List.getD_cons_succ, List.getD_nil, Nat.succ_ne_self, reduceCtorEq, hn, hd, h0, h1, l3, List.length_map]
    have hA : h.get h2.next = none := by
      cases e : h.get h2.next with
      | none => rfl
      | some o => have := hsub _ _ e; rw [hwf2 _ (Nat.le_refl _)] at this; cases this
    generalize hAe : h2.next = A at *
    refine AW.loop (fun m a' h' => Sub h h' ∧ a'.n = 40 ∧ a'.df = [] ∧ a'.tm 0 = v1 ∧ a'.tm 1 = v2 ∧ a'.tm 7 = .slice (some ⟨A, 0, none⟩) zs.length zs.length ∧ a'.tm 20 = v1 ∧ a'.tm 21 = .int .i64 zs.length ∧
        ∃ (i : Nat) (out : List Bool), a'.tm 22 = .int .i64 i ∧ i + m = zs.length ∧ h'.get A = some (.row (out.map .bool) 4 true) ∧ out.length = zs.length ∧
          ∀ k z, k < i → zs[k]? = some z → out[z.toNat]? = bs[zs.length - 1 - k]?) zs.length ?_ ?_
    · refine ⟨hsub3, by simp only [put_n, hn], by simp only [put_df, hd], by simp [put_tm, h0], by simp [put_tm, h1], by simp [put_tm], by simp [put_tm], by simp [put_tm], 0, List.replicate zs.length false, by simp [put_tm], by omega, by simp [AH.new_get, hAe], by simp, fun k z hk => by omega⟩
    · rintro m a' h' ⟨hs', hn, hd, h0, h1, h7, h20, h21, i, out, h22, him, hg, hlen, hall⟩
      refine wpA_sound _ _ _ _ ?_
      simp only [wpA_skip, wpA_ret, wpA_exit, wpA_seq, wpA_block, wpA_cond, wpA_region, wpA_draw, wpA_loop, thenQ_normal, thenQ_ret, thenQ_exit, blockQ_normal, blockQ_ret, blockQ_exit, condV_true, condV_false, opsM_nil, opsM_cons, seqM, okB, Keeps_nil, contK_app, List.zip_cons_cons, List.zip_nil_left, List.zip_nil_right, Op.operands, Call.operands, Array.toList_append, List.append_nil, List.nil_append, List.all_cons, List.all_nil, cOK, plain, put_n, put_tm, put_none, put_df, ev_tmp, ev_const, ev_func, wanted_none, wanted_some, callR_func, dop, ex_some1, aBuiltin, aBin, intBin, aUn, Option.map_some, Bool.and_true, Bool.true_and, Bool.and_self, true_and, and_true, List.map_cons, List.map_nil, List.toList_toArray, List.getElem?_toArray, List.getElem?_cons_zero, List.getElem?_cons_succ, Option.getD_some, Option.getD_none, if_true, if_false, Bool.false_eq_true, eq_self_iff_true, reduceIte, Nat.reduceLT, Nat.reduceEqDiff, decide_true, decide_false, List.cons_append, aExtract, bodyR_ret, bodyR_normal, resL, resV, List.getD_cons_zero, List.getD_cons_succ, List.getD_nil, Nat.succ_ne_self, reduceCtorEq, hn, hd, h0, h1, h7, h20, h21, h22]
      refine condV_of (fun hlt => ?_) (fun hge => ?_)
      · have hi : i < zs.length := by simpa using hlt
        obtain ⟨z0, hz0, hze⟩ := hp.range (List.getElem_mem hi)
        have hzi : zs[i]? = some ((z0 : Nat) : Int) := by rw [List.getElem?_eq_getElem hi, hze]
        obtain ⟨q1, e1, e2⟩ := (hv.sub hs').at sl22 (k := .i64) (i := i) (x := .int .i64 z0) (by simp [hzi])
        obtain ⟨q2, e3, e4⟩ := (hw.sub hs').at sl23 (k := .i64) (i := zs.length - 1 - i) (x := .bool (bs[zs.length - 1 - i]'(by omega))) (by simp [show zs.length - 1 - i < bs.length by omega])
        have w1 : IntKind.i64.wrap ((zs.length : Int) - 1) = (zs.length : Int) - 1 := by rw [Go.IntWalk.i64_in _ (by omega)]
        have w2 : IntKind.i64.wrap ((zs.length : Int) - 1 - i) = ((zs.length - 1 - i : Nat) : Int) := by rw [Go.IntWalk.i64_in _ (by omega)]; omega
        have e5 := aIndexAddr_in t23 (A := A) (off := 0) (cap := zs.length) (k := .i64) (n := ((z0 : Nat) : Int)) rfl hz0
        have hoff : 0 + z0 < (out.map Value.bool).length := by simp; omega
        have e6 := aStore_row t23 (x := .bool (bs[zs.length - 1 - i]'(by omega))) hg hoff rfl rfl
        have l7 : aLen Try.prog 23 (.slice (some ⟨A, 0, none⟩) zs.length zs.length) h' = some (.int .i64 zs.length) := by simp only [aLen, Try.underlying23]
        have hw3 : IntKind.i64.wrap ((i : Int) + 1) = ((i + 1 : Nat) : Int) := by rw [Go.IntWalk.i64_in _ (by omega)]; omega
        simp only [wpA_skip, wpA_ret, wpA_exit, wpA_seq, wpA_block, wpA_cond, wpA_region, wpA_draw, wpA_loop, thenQ_normal, thenQ_ret, thenQ_exit, blockQ_normal, blockQ_ret, blockQ_exit, condV_true, condV_false, opsM_nil, opsM_cons, seqM, okB, Keeps_nil, contK_app, List.zip_cons_cons, List.zip_nil_left, List.zip_nil_right, Op.operands, Call.operands, Array.toList_append, List.append_nil, List.nil_append, List.all_cons, List.all_nil, cOK, plain, put_n, put_tm, put_none, put_df, ev_tmp, ev_const, ev_func, wanted_none, wanted_some, callR_func, dop, ex_some1, aBuiltin, aBin, intBin, aUn, Option.map_some, Bool.and_true, Bool.true_and, Bool.and_self, true_and, and_true, List.map_cons, List.map_nil, List.toList_toArray, List.getElem?_toArray, List.getElem?_cons_zero, List.getElem?_cons_succ, Option.getD_some, Option.getD_none, if_true, if_false, Bool.false_eq_true, eq_self_iff_true, reduceIte, Nat.reduceLT, Nat.reduceEqDiff, decide_true, decide_false, List.cons_append, aExtract, bodyR_ret, bodyR_normal, resL, resV, List.getD_cons_zero, List.getD_cons_succ, List.getD_nil, Nat.succ_ne_self, reduceCtorEq, hn, hd, h0, h1, h7, h20, h21, h22, e1, e2, e3, e4, l7, w1, w2, e5, e6, hw3]
        refine ⟨m - 1, by omega, fun B o hB => ?_, i + 1, out.set z0 (bs[zs.length - 1 - i]'(by omega)), rfl, by omega, by simp [AH.set_get, List.map_set], by simp [hlen], fun k z hk hz => ?_⟩
        · rw [AH.set_get, if_neg]
          · exact hs' B o hB
          · intro e; subst e; rw [hA] at hB; cases hB
        · by_cases e : k = i
          · subst e
            rw [hzi] at hz; cases hz
            rw [Int.toNat_natCast, List.getElem?_set_self (by omega)]
            simp [show zs.length - 1 - k < bs.length by omega]
          · have hkz : k < zs.length := (List.getElem?_eq_some_iff.1 hz).1
            obtain ⟨z1, hz1, hz1e⟩ := hp.range (List.mem_of_getElem? hz)
            have hne : z0 ≠ z.toNat := by
              intro e'
              have : z = (z0 : Int) := by omega
              rw [this] at hz
              exact e (hp.inj hz hzi)
            rw [List.getElem?_set_ne hne]
            exact hall k z (by omega) hz
      · have hge : zs.length ≤ i := by simpa using hge
        simp only [wpA_skip, wpA_ret, wpA_exit, wpA_seq, wpA_block, wpA_cond, wpA_region, wpA_draw, wpA_loop, thenQ_normal, thenQ_ret, thenQ_exit, blockQ_normal, blockQ_ret, blockQ_exit, condV_true, condV_false, opsM_nil, opsM_cons, seqM, okB, Keeps_nil, contK_app, List.zip_cons_cons, List.zip_nil_left, List.zip_nil_right, Op.operands, Call.operands, Array.toList_append, List.append_nil, List.nil_append, List.all_cons, List.all_nil, cOK, plain, put_n, put_tm, put_none, put_df, ev_tmp, ev_const, ev_func, wanted_none, wanted_some, callR_func, dop, ex_some1, aBuiltin, aBin, intBin, aUn, Option.map_some, Bool.and_true, Bool.true_and, Bool.and_self, true_and, and_true, List.map_cons, List.map_nil, List.toList_toArray, List.getElem?_toArray, List.getElem?_cons_zero, List.getElem?_cons_succ, Option.getD_some, Option.getD_none, if_true, if_false, Bool.false_eq_true, eq_self_iff_true, reduceIte, Nat.reduceLT, Nat.reduceEqDiff, decide_true, decide_false, List.cons_append, aExtract, bodyR_ret, bodyR_normal, resL, resV, List.getD_cons_zero, List.getD_cons_succ, List.getD_nil, Nat.succ_ne_self, reduceCtorEq, hn, hd, h0, h1, h7, h20, h21, h22]
        refine ⟨hs', .inr ⟨hc, _, out, rfl, ⟨hlen, fun k z hz => hall k z ?_ hz⟩, some ⟨A, 0, none⟩, _, _, rfl, by simp [hlen], fun q e => by cases e; rfl, .inr ⟨A, 0, _, _, rfl, hg, rfl, fun j x hx => by rw [Nat.zero_add]; exact hx⟩⟩⟩
        have := (List.getElem?_eq_some_iff.1 hz).1
        omega
  · have hne : (chainE zs bs.length != 0) = true := by simpa using hc
    simp only [wpA_skip, wpA_ret, wpA_exit, wpA_seq, wpA_block, wpA_cond, wpA_region, wpA_draw, wpA_loop, thenQ_normal, thenQ_ret, thenQ_exit, blockQ_normal, blockQ_ret, blockQ_exit, condV_true, condV_false, opsM_nil, opsM_cons, seqM, okB, Keeps_nil, contK_app, List.zip_cons_cons, List.zip_nil_left, List.zip_nil_right, Op.operands, Call.operands, Array.toList_append, List.append_nil, List.nil_append, List.all_cons, List.all_nil, cOK, plain, put_n, put_tm, put_none, put_df, ev_tmp, ev_const, ev_func, wanted_none, wanted_some, callR_func, dop, ex_some1, aBuiltin, aBin, intBin, aUn, Option.map_some, Bool.and_true, Bool.true_and, Bool.and_self, true_and, and_true, List.map_cons, List.map_nil, List.toList_toArray, List.getElem?_toArray, List.getElem?_cons_zero, List.getElem?_cons_succ, Option.getD_some, Option.getD_none, if_true, if_false, Bool.false_eq_true, eq_self_iff_true, reduceIte, Nat.reduceLT, Nat.reduceEqDiff, decide_true, decide_false, List.cons_append, aExtract, bodyR_ret, bodyR_normal, resL, resV, List.getD_cons_zero, List.getD_cons_succ, List.getD_nil, Nat.succ_ne_self, reduceCtorEq, hn, hd, h0, h1, hne]
    exact ⟨hsub, .inl ⟨hc, rfl⟩⟩

end Go.Ab.S1
