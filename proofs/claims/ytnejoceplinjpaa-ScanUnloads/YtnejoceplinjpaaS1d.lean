/- netlablaw31.ScanUnloads on the abstract heap: true. -/
import Derived.Test.YtnejoceplinjpaaS1c
namespace Go.Ab.S1
open Go.Proofs

theorem z00 : ((((0 : Nat) : Int)) == 0) = true := rfl
theorem gTF : ((some true : Option Bool) == some false) = false := rfl
theorem gTT : ((some true : Option Bool) == some true) = true := rfl
theorem gFT : ((some false : Option Bool) == some true) = false := rfl
theorem gFF : ((some false : Option Bool) == some false) = true := rfl

theorem chainE_ok {zs : List Int} {k : Nat} (hp : IsPerm zs) (hk : k = zs.length) : chainE zs k = 0 := by simp [chainE, hp, hk]

theorem unload_load {zs : List Int} {bs out c : List Bool} (hp : IsPerm zs) (hl : bs.length = zs.length) (h1 : IsLoad zs bs out) (h2 : IsUnload zs out c) : c = bs := by
  apply List.ext_getElem?
  intro j
  by_cases hj : j < zs.length
  · obtain ⟨k, hk⟩ := hp.onto hj
    have e1 := h2.2 k _ hk
    have e2 := h1.2 k _ hk
    rw [Int.toNat_natCast] at e1 e2
    rw [e1, e2]
  · rw [List.getElem?_eq_none (by have := h2.1; omega), List.getElem?_eq_none (by omega)]

theorem load_unload {zs : List Int} {bs out d : List Bool} (hl : bs.length = zs.length) (h1 : IsUnload zs bs out) (h2 : IsLoad zs out d) : d = bs := by
  apply List.ext_getElem?
  intro j
  by_cases hj : j < zs.length
  · have hk : zs[zs.length - 1 - j]? = some zs[zs.length - 1 - j] := List.getElem?_eq_getElem (by omega)
    have e1 := h2.2 _ _ hk
    have e2 := h1.2 _ _ hk
    have : zs.length - 1 - (zs.length - 1 - j) = j := by omega
    rw [this] at e1 e2
    rw [e1, e2]
  · rw [List.getElem?_eq_none (by have := h2.1; omega), List.getElem?_eq_none (by omega)]

set_option maxRecDepth 100000 in
theorem scanUnloads (hA : ∀ h, ACall Try.prog 7 [] h (fun v h' => v = .bool true ∧ h' = h)) {h : AH} {v1 v2 : Value} {zs : List Int} {bs : List Bool} (hv : SlOf h v1 (zs.map (.int .i64))) (hw : SlOf h v2 (bs.map .bool)) :
    ACall Try.prog 4 [v1, v2] h (fun r _ => r = .bool true) := by
  refine ACall.of_wp 80 [.tmp 4] Try.func4 rfl (by kernel_rfl) rfl rfl fun a hn hd ha => ?_
  have h0 := ha 0
  have h1 := ha 1
  have l0 := hv.len Try.underlying22
  simp only [List.getD_cons_zero, List.getD_cons_succ] at h0 h1
  by_cases hbig : zs.length > 100
  · have hgt : decide ((zs.length : Int) > 100) = true := by simp; omega
    simp only [wpA_seq, wpA_cond, wpA_region, thenQ_normal, condV_true, opsM_nil, opsM_cons, okB, Op.operands, Call.operands, Array.toList_append, List.append_nil, List.nil_append, List.all_cons, List.all_nil, cOK, plain, put_n, put_tm, ev_tmp, ev_const, ev_func, wanted_none, wanted_some, callR_func, dop, aBuiltin, aBin, intBin, Option.map_some, Bool.and_self, true_and, List.map_cons, List.map_nil, List.toList_toArray, List.getElem?_toArray, List.getElem?_cons_zero, List.getElem?_cons_succ, if_true, if_false, Nat.reduceLT, Nat.reduceEqDiff, decide_true, Nat.succ_ne_self, reduceCtorEq, hn, h0, l0, List.length_map, yieldedA, Option.bind_some, hgt, gTF]
    refine ACall.mono ?_ (hA h)
    rintro v h' ⟨rfl, rfl⟩
    simp only [wpA_ret, thenQ_normal, thenQ_ret, opsM_nil, opsM_cons, okB, contK_app, Op.operands, List.all_cons, List.all_nil, cOK, put_n, put_tm, put_df, ev_tmp, wanted_none, dop, ex_some1, Option.map_some, Bool.and_self, List.toList_toArray, if_true, if_false, Nat.reduceLT, Nat.reduceEqDiff, decide_true, bodyR_ret, resL, resV, Nat.succ_ne_self, hn, hd]
  · have hgt : decide ((zs.length : Int) > 100) = false := by simp; omega
    simp only [wpA_seq, wpA_region, thenQ_normal, opsM_nil, opsM_cons, okB, Op.operands, Call.operands, Array.toList_append, List.append_nil, List.nil_append, List.all_cons, List.all_nil, cOK, plain, put_n, put_tm, ev_tmp, ev_const, ev_func, wanted_none, wanted_some, callR_func, dop, aBuiltin, aBin, intBin, Option.map_some, Bool.and_self, List.map_cons, List.map_nil, List.toList_toArray, List.getElem?_toArray, List.getElem?_cons_zero, List.getElem?_cons_succ, if_true, if_false, Nat.reduceLT, Nat.reduceEqDiff, decide_true, Nat.succ_ne_self, reduceCtorEq, hn, h0, l0, List.length_map, yieldedA, Option.bind_some, hgt, gFF]
    refine ACall.mono ?_ (hA h)
    rintro v h' ⟨rfl, rfl⟩
    simp only [wpA_skip, wpA_seq, wpA_cond, wpA_region, thenQ_normal, condV_false, opsM_nil, opsM_cons, okB, contK_app, Op.operands, Call.operands, Array.toList_append, List.append_nil, List.nil_append, List.all_cons, List.all_nil, cOK, plain, put_n, put_tm, ev_tmp, ev_const, ev_func, wanted_none, wanted_some, callR_func, dop, aUn, Option.map_some, Bool.and_self, true_and, List.map_cons, List.map_nil, List.toList_toArray, List.getElem?_toArray, List.getElem?_cons_zero, List.getElem?_cons_succ, if_true, if_false, Bool.false_eq_true, Nat.reduceLT, Nat.reduceEqDiff, decide_true, List.cons_append, Nat.succ_ne_self, reduceCtorEq, hn, h0, h1, yieldedA, Option.bind_some, gFF, Bool.not_true]
    refine ACall.mono ?_ (load hv hw (by omega))
    rintro r2 h2 ⟨hs2, hr2⟩
    by_cases hc : chainE zs bs.length = 0
    · obtain ⟨hp, hk⟩ := chainE_zero hc
      rcases hr2 with ⟨hne, _⟩ | ⟨_, u, out, rfl, hload, hu⟩
      · exact absurd hc hne
      simp only [wpA_seq, wpA_region, thenQ_normal, opsM_nil, opsM_cons, okB, contK_app, Op.operands, Call.operands, Array.toList_append, List.append_nil, List.nil_append, List.all_cons, List.all_nil, cOK, put_n, put_tm, ev_tmp, ev_func, wanted_none, callR_func, dop, Option.map_some, Bool.and_self, List.map_cons, List.map_nil, List.toList_toArray, List.getElem?_toArray, List.getElem?_cons_zero, List.getElem?_cons_succ, if_true, if_false, Nat.reduceLT, Nat.reduceEqDiff, decide_true, List.cons_append, aExtract, Nat.succ_ne_self, reduceCtorEq, hn, h0, h1]
      refine ACall.mono ?_ (unload (hv.sub hs2) (hw.sub hs2) (by omega))
      rintro r3 h3 ⟨hs3, hr3⟩
      rcases hr3 with ⟨hne, _⟩ | ⟨_, u2, out2, rfl, hunload, hu2⟩
      · exact absurd hc hne
      simp only [wpA_skip, wpA_seq, wpA_cond, wpA_region, thenQ_normal, condV_false, opsM_nil, opsM_cons, okB, contK_app, Op.operands, Call.operands, Array.toList_append, List.append_nil, List.nil_append, List.all_cons, List.all_nil, cOK, plain, put_n, put_tm, ev_tmp, ev_const, ev_func, wanted_none, wanted_some, callR_func, dop, aBin, intBin, Option.map_some, Bool.and_self, true_and, List.map_cons, List.map_nil, List.toList_toArray, List.getElem?_toArray, List.getElem?_cons_zero, List.getElem?_cons_succ, if_true, if_false, Bool.false_eq_true, Nat.reduceLT, Nat.reduceEqDiff, decide_true, List.cons_append, aExtract, Nat.succ_ne_self, reduceCtorEq, hn, h0, yieldedA, Option.bind_some, bne_self_eq_false, gFF]
      have hol : out.length = zs.length := hload.1
      have ho2 : out2.length = zs.length := hunload.1
      refine ACall.mono ?_ (unload ((hv.sub hs2).sub hs3) (hu.sub hs3) (by omega))
      rintro r4 h4 ⟨hs4, hr4⟩
      rcases hr4 with ⟨hne, _⟩ | ⟨_, u3, c, rfl, hc3, hu3⟩
      · exact absurd (chainE_ok hp hol) hne
      simp only [wpA_seq, wpA_region, thenQ_normal, opsM_nil, opsM_cons, okB, contK_app, Op.operands, Call.operands, Array.toList_append, List.append_nil, List.nil_append, List.all_cons, List.all_nil, cOK, put_n, put_tm, ev_tmp, ev_func, wanted_none, callR_func, dop, Option.map_some, Bool.and_self, List.map_cons, List.map_nil, List.toList_toArray, List.getElem?_toArray, List.getElem?_cons_zero, List.getElem?_cons_succ, if_true, if_false, Nat.reduceLT, Nat.reduceEqDiff, decide_true, List.cons_append, aExtract, Nat.succ_ne_self, reduceCtorEq, hn, h0]
      refine ACall.mono ?_ (load (((hv.sub hs2).sub hs3).sub hs4) (hu2.sub hs4) (by omega))
      rintro r5 h5 ⟨hs5, hr5⟩
      rcases hr5 with ⟨hne, _⟩ | ⟨_, u4, d, rfl, hd4, hu4⟩
      · exact absurd (chainE_ok hp ho2) hne
      have hcb : c = bs := unload_load hp hk hload hc3
      have hdb : d = bs := load_unload hk hunload hd4
      subst hcb
      subst hdb
      simp only [wpA_seq, wpA_region, thenQ_normal, opsM_nil, opsM_cons, okB, contK_app, Op.operands, Call.operands, Array.toList_append, List.append_nil, List.nil_append, List.all_cons, List.all_nil, cOK, plain, put_n, put_tm, ev_tmp, ev_const, ev_func, wanted_none, wanted_some, callR_func, dop, aBin, intBin, Option.map_some, Bool.and_self, List.map_cons, List.map_nil, List.toList_toArray, List.getElem?_toArray, List.getElem?_cons_zero, List.getElem?_cons_succ, if_true, if_false, Nat.reduceLT, Nat.reduceEqDiff, decide_true, List.cons_append, aExtract, Nat.succ_ne_self, hn, h1, yieldedA, Option.bind_some, beq_self_eq_true]
      have hw5 := (((hw.sub hs2).sub hs3).sub hs4).sub hs5
      refine ACall.mono ?_ (eqBools (hu3.sub hs5) hw5 (by omega))
      rintro r6 h6 ⟨rfl, rfl⟩
      simp only [opsM_cons, okB, contK_app, Op.operands, Call.operands, Array.toList_append, List.append_nil, List.nil_append, List.all_cons, List.all_nil, cOK, plain, put_n, put_tm, ev_tmp, ev_const, ev_func, wanted_none, wanted_some, callR_func, dop, Bool.and_self, List.map_cons, List.map_nil, List.toList_toArray, List.getElem?_toArray, List.getElem?_cons_zero, List.getElem?_cons_succ, if_true, if_false, Nat.reduceLT, Nat.reduceEqDiff, decide_true, List.cons_append, Nat.succ_ne_self, hn, h1, yieldedA, Option.bind_some, gTT]
      refine ACall.mono ?_ (eqBools hu4 hw5 (by omega))
      rintro r7 h7 ⟨rfl, rfl⟩
      simp only [wpA_ret, thenQ_normal, opsM_nil, opsM_cons, okB, contK_app, Op.operands, List.all_cons, List.all_nil, cOK, plain, put_n, put_tm, put_df, ev_tmp, ev_const, wanted_none, dop, ex_some1, Option.map_some, Bool.and_self, List.toList_toArray, if_true, if_false, Nat.reduceLT, Nat.reduceEqDiff, decide_true, bodyR_ret, resL, resV, Nat.succ_ne_self, hn, hd]
    · rcases hr2 with ⟨_, rfl⟩ | ⟨he, _⟩
      case inr => exact absurd he hc
      simp only [wpA_seq, wpA_region, thenQ_normal, opsM_nil, opsM_cons, okB, contK_app, Op.operands, Call.operands, Array.toList_append, List.append_nil, List.nil_append, List.all_cons, List.all_nil, cOK, put_n, put_tm, ev_tmp, ev_func, wanted_none, callR_func, dop, Option.map_some, Bool.and_self, List.map_cons, List.map_nil, List.toList_toArray, List.getElem?_toArray, List.getElem?_cons_zero, List.getElem?_cons_succ, if_true, if_false, Nat.reduceLT, Nat.reduceEqDiff, decide_true, List.cons_append, aExtract, Nat.succ_ne_self, reduceCtorEq, hn, h0, h1]
      refine ACall.mono ?_ (unload (hv.sub hs2) (hw.sub hs2) (by omega))
      rintro r3 h3 ⟨hs3, hr3⟩
      rcases hr3 with ⟨_, rfl⟩ | ⟨he, _⟩
      case inr => exact absurd he hc
      have hne : (chainE zs bs.length != 0) = true := by simpa using hc
      simp only [wpA_ret, wpA_seq, wpA_cond, wpA_region, thenQ_normal, thenQ_ret, condV_true, opsM_nil, opsM_cons, okB, contK_app, Op.operands, Call.operands, Array.toList_append, List.nil_append, List.all_cons, List.all_nil, cOK, plain, put_n, put_tm, put_df, ev_tmp, ev_const, wanted_none, wanted_some, dop, ex_some1, aBuiltin, aBin, intBin, Option.map_some, Bool.and_self, true_and, List.map_cons, List.map_nil, List.toList_toArray, List.getElem?_toArray, List.getElem?_cons_zero, List.getElem?_cons_succ, if_true, if_false, Nat.reduceLT, Nat.reduceEqDiff, decide_true, aExtract, bodyR_ret, resL, resV, Nat.succ_ne_self, hn, hd, yieldedA, Option.bind_some, hne, gTF]
      simp only [Option.map_some, if_true, beq_self_eq_true, aLen, Try.underlying23, z00]
end Go.Ab.S1
