/- netlabref31.Load and .Unload; scan.Load and .Unload, whose results are one's own. -/
import Derived.Test.YtnejoceplinjpaaS1f
namespace Go.Ab.S1
open Go.Proofs
set_option linter.unusedSimpArgs false
set_option linter.unusedVariables false
attribute [local push_cast] wpA_skip wpA_ret wpA_exit wpA_seq wpA_block wpA_cond2 andK_true wpA_region wpA_draw wpA_loop thenQ_normal thenQ_ret thenQ_exit blockQ_normal blockQ_ret blockQ_exit condV_true condV_false opsM_nil opsM_cons2 okM_true wantM_true wantM_false stepM seqM_cons2 seqM_nil2 okS_true wantS_true wantS_false stepS skipS okB Keeps_nil contK_app List.zip_cons_cons List.zip_nil_left List.zip_nil_right Op.operands Call.operands Array.toList_append List.append_nil List.nil_append List.all_cons List.all_nil cOK plain put_n put_tm put_none put_df ev_tmp ev_const ev_func wanted_none wanted_some callR_func dop ex_some1 aBuiltin aBin intBin aUn Option.map_some Bool.and_true Bool.true_and Bool.and_self List.map_cons List.map_nil List.toList_toArray List.getElem?_toArray List.getElem?_cons_zero List.getElem?_cons_succ Option.getD_some Option.getD_none Bool.false_eq_true eq_self_iff_true decide_true decide_false List.cons_append aExtract resL resV List.getD_cons_zero List.getD_cons_succ List.getD_nil Nat.succ_ne_self g1 g2 yieldedA Option.bind_some Option.bind_none bne_self_eq_false beq_self_eq_true Bool.not_true Bool.not_false Int.toNat_natCast List.length_map List.mem_cons List.not_mem_nil or_false not_false_eq_true decide_not Bool.not_not bodyR_ret2 bodyR_normal2 closeMarks_nil ex_some0 Nat.zero_add Nat.add_zero

set_option maxRecDepth 100000 in
theorem loadR {h : AH} {v1 v2 : Value} {zs : List Int} {bs : List Bool} (hv : SlOf h v1 (zs.map (.int .i64))) (hw : SlOf h v2 (bs.map .bool)) (hb : zs.length ≤ 4294967296) :
    ACall Try.prog 8 [v1, v2] h (LoadPost IsLoad zs bs h) := by
  refine ACall.wf ⟨_, Try.func8, rfl, by kernel_rfl⟩ fun hwf => ?_
  refine ACall.of_wp 34 [.tmp 4, .tmp 5] Try.func8 rfl (by kernel_rfl) rfl rfl fun a hn hd ha => ?_
  simp (disch := first | omega | decide) only [push_cast, ↓reduceIte, Nat.reduceLT, Nat.reduceEqDiff, reduceCtorEq, Nat.reduceAdd, if_true, if_false, true_and, and_true, hn, hd, ha, hw.lenM Try.underlying23]
  refine ACall.mono ?_ (chainR hv hb)
  rintro _ _ ⟨rfl, rfl⟩
  simp (disch := first | omega | decide) only [push_cast, ↓reduceIte, Nat.reduceLT, Nat.reduceEqDiff, reduceCtorEq, Nat.reduceAdd, if_true, if_false, true_and, and_true, hn, hd, ha]
  refine condV_of (fun h0 => ?_) (fun h0 => ?_)
  · have hc : chainE zs bs.length ≠ 0 := by simpa using h0
    simp (disch := first | omega | decide) only [push_cast, ↓reduceIte, Nat.reduceLT, Nat.reduceEqDiff, reduceCtorEq, Nat.reduceAdd, if_true, if_false, true_and, and_true, hn, hd, ha]
    exact ⟨Sub.refl _, .inl ⟨hc, rfl⟩⟩
  · have hc : chainE zs bs.length = 0 := by simpa using h0
    obtain ⟨hp, hl⟩ := chainE_zero hc
    simp (disch := first | omega | decide) only [push_cast, ↓reduceIte, Nat.reduceLT, Nat.reduceEqDiff, reduceCtorEq, Nat.reduceAdd, if_true, if_false, true_and, and_true, hn, hd, ha, hv.lenM Try.underlying22, wrapI]
    rename_i h
    refine AW.loopK 19 [7, 8] (fun m a' h' => Gr h h' ∧ ∃ (i : Nat) (out : List Bool), a'.tm 8 = .int .i64 (zs.length - 1 - i) ∧ i + m = zs.length ∧ FrSl 4 h h' (a'.tm 7) (out.map .bool) ∧ out.length = i ∧
        ∀ j : Nat, j < i → out[j]? = bs[(zs.getD (zs.length - 1 - j) 0).toNat]?) zs.length ?_ ?_
    · refine ⟨Gr.refl hwf, 0, [], by simp (disch := first | omega | decide) only [push_cast, ↓reduceIte, Nat.reduceLT, Nat.reduceEqDiff, reduceCtorEq, Nat.reduceAdd, if_true, if_false, true_and, and_true, Int.sub_zero], by omega, by simp (disch := first | omega | decide) only [push_cast, ↓reduceIte, Nat.reduceLT, Nat.reduceEqDiff, reduceCtorEq, Nat.reduceAdd, if_true, if_false, true_and, and_true]; exact FrSl.nil 4 _ _, rfl, fun j hj => by omega⟩
    · rintro m a' h' hk ⟨hg, i, out, h8, him, ho, hol, hall⟩
      simp (disch := first | omega | decide) only [push_cast, ↓reduceIte, Nat.reduceLT, Nat.reduceEqDiff, reduceCtorEq, Nat.reduceAdd, if_true, if_false, true_and, and_true, hk.n, hk.df, hk.tm, hn, hd, ha, h8]
      refine condV_of (fun hge => ?_) (fun hlt => ?_)
      · have hi : i < zs.length := by have := hge; simp at this; omega
        obtain ⟨k, hk1⟩ : ∃ k : Nat, k = zs.length - 1 - i := ⟨_, rfl⟩
        have hk2 : (zs.length : Int) - 1 - i = k := by omega
        obtain ⟨z0, hz0, hze⟩ := hp.range (List.getElem_mem (show k < zs.length by omega))
        have hzk : zs.getD k 0 = (z0 : Int) := by simp [List.getD_eq_getElem?_getD, show k < zs.length by omega, hze]
        have hv' := hv.sub hg.sub
        have hw' := hw.sub hg.sub
        simp (disch := first | omega | decide) only [push_cast, ↓reduceIte, Nat.reduceLT, Nat.reduceEqDiff, reduceCtorEq, Nat.reduceAdd, if_true, if_false, true_and, and_true, hk.n, hk.df, hk.tm, hn, hd, ha, h8, hk2, hv'.idxI sl22, hv'.ldI sl22, hzk, hw'.idxB sl23, hw'.ldB sl23, fun b => aBuild1 t23 h' (x := .bool b) rfl rfl, app1 t23 hg ho (by simp; omega) (by simp; omega), wrapI]
        refine ⟨m - 1, by omega, (by simp (disch := decide) only [Kp_put, put_none, hk]), app1_gr hwf hg ho, i + 1, out ++ [bs.getD z0 false], ?_, by omega, ?_, by simp [hol], fun j hj => ?_⟩
        · simp (disch := first | omega | decide) only [push_cast, ↓reduceIte, Nat.reduceLT, Nat.reduceEqDiff, reduceCtorEq, Nat.reduceAdd, if_true, if_false, true_and, and_true]
          congr 1; omega
        · simp (disch := first | omega | decide) only [push_cast, ↓reduceIte, Nat.reduceLT, Nat.reduceEqDiff, reduceCtorEq, Nat.reduceAdd, if_true, if_false, true_and, and_true, List.map_append, List.length_map]
          have := app1_fr (e := 4) (v := a'.tm 7) (x := .bool (bs.getD z0 false)) (vs := out.map .bool) hg
          simpa using this
        · by_cases e : j = i
          · subst e
            rw [List.getElem?_append_right (by omega), hol, Nat.sub_self, ← hk1, hzk]
            simp [List.getD_eq_getElem?_getD, show z0 < bs.length by omega]
          · rw [List.getElem?_append_left (by omega)]
            exact hall j (by omega)
      · have hi : i = zs.length := by have := hlt; simp at this; omega
        simp (disch := first | omega | decide) only [push_cast, ↓reduceIte, Nat.reduceLT, Nat.reduceEqDiff, reduceCtorEq, Nat.reduceAdd, if_true, if_false, true_and, and_true, hk.n, hk.df, hk.tm, hn, hd, ha, h8]
        refine ⟨hg.sub, .inr ⟨hc, _, out, rfl, ⟨by omega, fun k z hz => ?_⟩, ho.sl⟩⟩
        have hkl := (List.getElem?_eq_some_iff.1 hz).1
        rw [hall _ (by omega)]
        have : zs.length - 1 - (zs.length - 1 - k) = k := by omega
        rw [this, List.getD_eq_getElem?_getD, hz]
        rfl

def LoadOwn (R : List Int → List Bool → List Bool → Prop) (zs : List Int) (bs : List Bool) (h : AH) (r : Value) (h' : AH) : Prop :=
  Gr h h' ∧ ((chainE zs bs.length ≠ 0 ∧ r = .tuple #[.slice none 0 0, .int .i64 (chainE zs bs.length)] ∧ h' = h) ∨
    (chainE zs bs.length = 0 ∧ ∃ A out, r = .tuple #[.slice (some ⟨A, 0, none⟩) zs.length zs.length, .int .i64 0] ∧ R zs bs out ∧ out.length = zs.length ∧ h.next ≤ A ∧ h'.get A = some (.row (out.map .bool) 4 true)))

theorem IsPerm.get {zs : List Int} (hp : IsPerm zs) {k : Nat} (hk : k < zs.length) : ∃ z0 : Nat, z0 < zs.length ∧ zs.getD k 0 = (z0 : Int) ∧ zs[k]? = some (z0 : Int) := by
  obtain ⟨z0, hz0, hze⟩ := hp.range (List.getElem_mem hk)
  exact ⟨z0, hz0, by simp [List.getD_eq_getElem?_getD, hk, hze], by simp [hk, hze]⟩

theorem replicate_bool (n : Nat) : List.replicate n (Value.bool false) = (List.replicate n false).map .bool := by simp

theorem chain' {h : AH} {v : Value} {zs : List Int} {k : Nat} (hv : SlOf h v (zs.map (.int .i64))) (hb : zs.length ≤ 4294967296) :
    ACall Try.prog 26 [v, .int .i64 k] h (fun r h' => r = .int .i64 (chainE zs k) ∧ h' = h) :=
  ACall.viewed rfl (ACall.mono (fun _ _ x => x.1) (chain hv.view hb))

set_option maxRecDepth 100000 in
theorem unloadR {h : AH} {v1 v2 : Value} {zs : List Int} {bs : List Bool} (hv : SlOf h v1 (zs.map (.int .i64))) (hw : SlOf h v2 (bs.map .bool)) (hb : zs.length ≤ 4294967296) :
    ACall Try.prog 9 [v1, v2] h (LoadOwn IsUnload zs bs h) := by
  refine ACall.wf ⟨_, Try.func9, rfl, by kernel_rfl⟩ fun hwf => ?_
  refine ACall.of_wp 40 [.tmp 4, .tmp 5] Try.func9 rfl (by kernel_rfl) rfl rfl fun a hn hd ha => ?_
  simp (disch := first | omega | decide) only [push_cast, ↓reduceIte, Nat.reduceLT, Nat.reduceEqDiff, reduceCtorEq, Nat.reduceAdd, if_true, if_false, true_and, and_true, hn, hd, ha, hw.lenM Try.underlying23]
  refine ACall.mono ?_ (chainR hv hb)
  rintro _ _ ⟨rfl, rfl⟩
  simp (disch := first | omega | decide) only [push_cast, ↓reduceIte, Nat.reduceLT, Nat.reduceEqDiff, reduceCtorEq, Nat.reduceAdd, if_true, if_false, true_and, and_true, hn, hd, ha]
  refine condV_of (fun h0 => ?_) (fun h0 => ?_)
  · have hc : chainE zs bs.length ≠ 0 := by simpa using h0
    simp (disch := first | omega | decide) only [push_cast, ↓reduceIte, Nat.reduceLT, Nat.reduceEqDiff, reduceCtorEq, Nat.reduceAdd, if_true, if_false, true_and, and_true, hn, hd, ha]
    exact ⟨Gr.refl hwf, .inl ⟨hc, rfl, rfl⟩⟩
  · have hc : chainE zs bs.length = 0 := by simpa using h0
    obtain ⟨hp, hl⟩ := chainE_zero hc
    rename_i h
    simp (disch := first | omega | decide) only [push_cast, ↓reduceIte, Nat.reduceLT, Nat.reduceEqDiff, reduceCtorEq, Nat.reduceAdd, if_true, if_false, true_and, and_true, hn, hd, ha, hv.lenM Try.underlying22, aMakeSlice_at t23 h zs.length (by omega) (by omega), replicate_bool]
    refine AW.loopK 19 [8] (fun m a' h' => Gr h h' ∧ ∃ (i : Nat) (out : List Bool), a'.tm 8 = .int .i64 i ∧ i + m = zs.length ∧ h.next < h'.next ∧ h'.get h.next = some (.row (out.map .bool) 4 true) ∧ out.length = zs.length ∧
        ∀ j : Nat, j < i → out[(zs.getD (zs.length - 1 - j) 0).toNat]? = bs[j]?) zs.length ?_ ?_
    · refine ⟨(Gr.refl hwf).new _, 0, List.replicate zs.length false, by simp (disch := first | omega | decide) only [push_cast, ↓reduceIte, Nat.reduceLT, Nat.reduceEqDiff, reduceCtorEq, Nat.reduceAdd, if_true, if_false, true_and, and_true], by omega, by simp, by simp [AH.new_get], by simp, fun j hj => by omega⟩
    · rintro m a' h' hk ⟨hg, i, out, h8, him, hnx, hrow, hol, hall⟩
      have hv' := hv.sub hg.sub
      have hw' := hw.sub hg.sub
      simp (disch := first | omega | decide) only [push_cast, ↓reduceIte, Nat.reduceLT, Nat.reduceEqDiff, reduceCtorEq, Nat.reduceAdd, if_true, if_false, true_and, and_true, hk.n, hk.df, hk.tm, hn, hd, ha, h8, hw'.lenM Try.underlying23]
      refine condV_of (fun hlt => ?_) (fun hge => ?_)
      · have hi : i < zs.length := by have := hlt; simp at this; omega
        obtain ⟨k, hk1⟩ : ∃ k : Nat, k = zs.length - 1 - i := ⟨_, rfl⟩
        have hk2 : (zs.length : Int) - 1 - i = k := by omega
        obtain ⟨z0, hz0, hzk, hzk'⟩ := hp.get (show k < zs.length by omega)
        have hst := fun b i' (hi' : i' < out.length) => stRow sl23 hrow one_bool i' b hi'
        simp (disch := first | omega | decide) only [push_cast, ↓reduceIte, Nat.reduceLT, Nat.reduceEqDiff, reduceCtorEq, Nat.reduceAdd, if_true, if_false, true_and, and_true, hk.n, hk.df, hk.tm, hn, hd, ha, h8]
        refine AW.drawT (.take 0 [14, 13] (.take 1 [14, 13, 8, 7] (.take 2 [14, 13, 8, 7, 6, 4, 3] (.take 3 [14, 13, 8, 7, 6, 4] (.take 4 [14, 13, 8, 7, 6] (.take 5 [14, 13, 8, 7, 6] (.take 6 [14, 13, 8, 7] (.take 7 [14, 13, 8] (.take 8 [14, 13] (.take 9 [14, 13, 12, 11] (.take 10 [14, 13, 12, 11] (.take 11 [14, 13, 12] (.take 12 [14, 13] (.take 13 [14] (.only 14 .done))))))))))))))) [0, 0, 0, 0, 0, 0, 0, 0, 0, 0, 0, 0, 0, 0, 2] mixed (by kernel_rfl) (by kernel_rfl) ?_
        simp (disch := first | omega | decide) only [push_cast, ↓reduceIte, Nat.reduceLT, Nat.reduceEqDiff, reduceCtorEq, Nat.reduceAdd, if_true, if_false, true_and, and_true, hk.n, hk.df, hk.tm, hn, hd, ha, h8, hv'.lenM Try.underlying22, hk2, hv'.idxI sl22, hv'.ldI sl22, hzk, hw'.idxB sl23, hw'.ldB sl23, idxL sl23, hst, wrapI]
        refine ⟨m - 1, by omega, (by simp (disch := decide) only [Kp_put, put_none, hk]), hg.set hwf (Nat.le_refl _) hnx _, i + 1, out.set z0 (bs.getD i false), ?_, by omega, by simpa using hnx, by simp [AH.set_get], by simp [hol], fun j hj => ?_⟩
        · simp (disch := first | omega | decide) only [push_cast, ↓reduceIte, Nat.reduceLT, Nat.reduceEqDiff, reduceCtorEq, Nat.reduceAdd, if_true, if_false, true_and, and_true]
        · by_cases e : j = i
          · subst e
            rw [← hk1, hzk, Int.toNat_natCast, List.getElem?_set_self (by omega)]
            simp [List.getD_eq_getElem?_getD, show j < bs.length by omega]
          · obtain ⟨z1, hz1, hz2, hz3⟩ := hp.get (show zs.length - 1 - j < zs.length by omega)
            have hne : z0 ≠ z1 := by
              rintro rfl
              have := hp.inj hzk' hz3
              omega
            have := hall j (by omega)
            rw [hz2, Int.toNat_natCast] at this ⊢
            rw [List.getElem?_set_ne hne]; exact this
      · have hi : i = zs.length := by have := hge; simp at this; omega
        simp (disch := first | omega | decide) only [push_cast, ↓reduceIte, Nat.reduceLT, Nat.reduceEqDiff, reduceCtorEq, Nat.reduceAdd, if_true, if_false, true_and, and_true, hk.n, hk.df, hk.tm, hn, hd, ha, h8]
        refine ⟨hg, .inr ⟨hc, h.next, out, rfl, ⟨hol, fun k z hz => ?_⟩, hol, Nat.le_refl _, hrow⟩⟩
        have hkl := (List.getElem?_eq_some_iff.1 hz).1
        have := hall (zs.length - 1 - k) (by omega)
        have e : zs.length - 1 - (zs.length - 1 - k) = k := by omega
        rw [e, List.getD_eq_getElem?_getD, hz] at this
        exact this

set_option maxRecDepth 100000 in
theorem loadO {h : AH} {v1 v2 : Value} {zs : List Int} {bs : List Bool} (hv : SlOf h v1 (zs.map (.int .i64))) (hw : SlOf h v2 (bs.map .bool)) (hb : zs.length ≤ 4294967296) :
    ACall Try.prog 10 [v1, v2] h (LoadOwn IsLoad zs bs h) := by
  refine ACall.wf ⟨_, Try.func10, rfl, by kernel_rfl⟩ fun hwf => ?_
  refine ACall.of_wp 40 [.tmp 4, .tmp 5] Try.func10 rfl (by kernel_rfl) rfl rfl fun a hn hd ha => ?_
  simp (disch := first | omega | decide) only [push_cast, ↓reduceIte, Nat.reduceLT, Nat.reduceEqDiff, reduceCtorEq, Nat.reduceAdd, if_true, if_false, true_and, and_true, hn, hd, ha, hw.lenM Try.underlying23]
  refine ACall.mono ?_ (chain' hv hb)
  rintro _ _ ⟨rfl, rfl⟩
  simp (disch := first | omega | decide) only [push_cast, ↓reduceIte, Nat.reduceLT, Nat.reduceEqDiff, reduceCtorEq, Nat.reduceAdd, if_true, if_false, true_and, and_true, hn, hd, ha]
  refine condV_of (fun h0 => ?_) (fun h0 => ?_)
  · have hc : chainE zs bs.length ≠ 0 := by simpa using h0
    simp (disch := first | omega | decide) only [push_cast, ↓reduceIte, Nat.reduceLT, Nat.reduceEqDiff, reduceCtorEq, Nat.reduceAdd, if_true, if_false, true_and, and_true, hn, hd, ha]
    exact ⟨Gr.refl hwf, .inl ⟨hc, rfl, rfl⟩⟩
  · have hc : chainE zs bs.length = 0 := by simpa using h0
    obtain ⟨hp, hl⟩ := chainE_zero hc
    rename_i h
    have hv1 := hv.sub (Sub.new hwf (.row ((List.replicate zs.length false).map .bool) 4 true))
    simp (disch := first | omega | decide) only [push_cast, ↓reduceIte, Nat.reduceLT, Nat.reduceEqDiff, reduceCtorEq, Nat.reduceAdd, if_true, if_false, true_and, and_true, hn, hd, ha, hv.lenM Try.underlying22, aMakeSlice_at t23 h zs.length (by omega) (by omega), replicate_bool, hv1.lenM Try.underlying22]
    refine AW.loopK 23 [8, 9, 22] (fun m a' h' => Gr h h' ∧ ∃ (i : Nat) (out : List Bool), a'.tm 22 = .int .i64 i ∧ i + m = zs.length ∧ h.next < h'.next ∧ h'.get h.next = some (.row (out.map .bool) 4 true) ∧ out.length = zs.length ∧
        ∀ j : Nat, j < i → out[zs.length - 1 - j]? = bs[(zs.getD j 0).toNat]?) zs.length ?_ ?_
    · refine ⟨(Gr.refl hwf).new _, 0, List.replicate zs.length false, by simp (disch := first | omega | decide) only [push_cast, ↓reduceIte, Nat.reduceLT, Nat.reduceEqDiff, reduceCtorEq, Nat.reduceAdd, if_true, if_false, true_and, and_true], by omega, by simp, by simp [AH.new_get], by simp, fun j hj => by omega⟩
    · rintro m a' h' hk ⟨hg, i, out, h22, him, hnx, hrow, hol, hall⟩
      have hv' := hv.sub hg.sub
      have hw' := hw.sub hg.sub
      simp (disch := first | omega | decide) only [push_cast, ↓reduceIte, Nat.reduceLT, Nat.reduceEqDiff, reduceCtorEq, Nat.reduceAdd, if_true, if_false, true_and, and_true, hk.n, hk.df, hk.tm, hn, hd, ha, h22]
      refine condV_of (fun hlt => ?_) (fun hge => ?_)
      · have hi : i < zs.length := by have := hlt; simp at this; omega
        obtain ⟨k, hk1⟩ : ∃ k : Nat, k = zs.length - 1 - i := ⟨_, rfl⟩
        have hk2 : (zs.length : Int) - 1 - i = k := by omega
        obtain ⟨z0, hz0, hzk, hzk'⟩ := hp.get hi
        have hst := fun b i' (hi' : i' < out.length) => stRow sl23 hrow one_bool i' b hi'
        simp (disch := first | omega | decide) only [push_cast, ↓reduceIte, Nat.reduceLT, Nat.reduceEqDiff, reduceCtorEq, Nat.reduceAdd, if_true, if_false, true_and, and_true, hk.n, hk.df, hk.tm, hn, hd, ha, h22, lenS Try.underlying23, hk2, hv'.idxI sl22, hv'.ldI sl22, hzk, hw'.idxB sl23, hw'.ldB sl23, idxL sl23, hst, wrapI]
        refine ⟨m - 1, by omega, (by simp (disch := decide) only [Kp_put, put_none, hk]), hg.set hwf (Nat.le_refl _) hnx _, i + 1, out.set k (bs.getD z0 false), ?_, by omega, by simpa using hnx, by simp [AH.set_get], by simp [hol], fun j hj => ?_⟩
        · simp (disch := first | omega | decide) only [push_cast, ↓reduceIte, Nat.reduceLT, Nat.reduceEqDiff, reduceCtorEq, Nat.reduceAdd, if_true, if_false, true_and, and_true]
        · by_cases e : j = i
          · subst e
            rw [← hk1, hzk, Int.toNat_natCast, List.getElem?_set_self (by omega)]
            simp [List.getD_eq_getElem?_getD, show z0 < bs.length by omega]
          · rw [List.getElem?_set_ne (by omega)]; exact hall j (by omega)
      · have hi : i = zs.length := by have := hge; simp at this; omega
        simp (disch := first | omega | decide) only [push_cast, ↓reduceIte, Nat.reduceLT, Nat.reduceEqDiff, reduceCtorEq, Nat.reduceAdd, if_true, if_false, true_and, and_true, hk.n, hk.df, hk.tm, hn, hd, ha, h22]
        refine ⟨hg, .inr ⟨hc, h.next, out, rfl, ⟨hol, fun k z hz => ?_⟩, hol, Nat.le_refl _, hrow⟩⟩
        have hkl := (List.getElem?_eq_some_iff.1 hz).1
        have := hall k (by omega)
        rw [List.getD_eq_getElem?_getD, hz] at this
        exact this

set_option maxRecDepth 100000 in
theorem unloadO {h : AH} {v1 v2 : Value} {zs : List Int} {bs : List Bool} (hv : SlOf h v1 (zs.map (.int .i64))) (hw : SlOf h v2 (bs.map .bool)) (hb : zs.length ≤ 4294967296) :
    ACall Try.prog 11 [v1, v2] h (LoadOwn IsUnload zs bs h) := by
  refine ACall.wf ⟨_, Try.func11, rfl, by kernel_rfl⟩ fun hwf => ?_
  refine ACall.of_wp 40 [.tmp 4, .tmp 5] Try.func11 rfl (by kernel_rfl) rfl rfl fun a hn hd ha => ?_
  simp (disch := first | omega | decide) only [push_cast, ↓reduceIte, Nat.reduceLT, Nat.reduceEqDiff, reduceCtorEq, Nat.reduceAdd, if_true, if_false, true_and, and_true, hn, hd, ha, hw.lenM Try.underlying23]
  refine ACall.mono ?_ (chain' hv hb)
  rintro _ _ ⟨rfl, rfl⟩
  simp (disch := first | omega | decide) only [push_cast, ↓reduceIte, Nat.reduceLT, Nat.reduceEqDiff, reduceCtorEq, Nat.reduceAdd, if_true, if_false, true_and, and_true, hn, hd, ha]
  refine condV_of (fun h0 => ?_) (fun h0 => ?_)
  · have hc : chainE zs bs.length ≠ 0 := by simpa using h0
    simp (disch := first | omega | decide) only [push_cast, ↓reduceIte, Nat.reduceLT, Nat.reduceEqDiff, reduceCtorEq, Nat.reduceAdd, if_true, if_false, true_and, and_true, hn, hd, ha]
    exact ⟨Gr.refl hwf, .inl ⟨hc, rfl, rfl⟩⟩
  · have hc : chainE zs bs.length = 0 := by simpa using h0
    obtain ⟨hp, hl⟩ := chainE_zero hc
    rename_i h
    have hv1 := hv.sub (Sub.new hwf (.row ((List.replicate zs.length false).map .bool) 4 true))
    simp (disch := first | omega | decide) only [push_cast, ↓reduceIte, Nat.reduceLT, Nat.reduceEqDiff, reduceCtorEq, Nat.reduceAdd, if_true, if_false, true_and, and_true, hn, hd, ha, hv.lenM Try.underlying22, aMakeSlice_at t23 h zs.length (by omega) (by omega), replicate_bool, hv1.lenM Try.underlying22]
    refine AW.loopK 23 [8, 9, 22] (fun m a' h' => Gr h h' ∧ ∃ (i : Nat) (out : List Bool), a'.tm 22 = .int .i64 i ∧ i + m = zs.length ∧ h.next < h'.next ∧ h'.get h.next = some (.row (out.map .bool) 4 true) ∧ out.length = zs.length ∧
        ∀ j : Nat, j < i → out[(zs.getD j 0).toNat]? = bs[zs.length - 1 - j]?) zs.length ?_ ?_
    · refine ⟨(Gr.refl hwf).new _, 0, List.replicate zs.length false, by simp (disch := first | omega | decide) only [push_cast, ↓reduceIte, Nat.reduceLT, Nat.reduceEqDiff, reduceCtorEq, Nat.reduceAdd, if_true, if_false, true_and, and_true], by omega, by simp, by simp [AH.new_get], by simp, fun j hj => by omega⟩
    · rintro m a' h' hk ⟨hg, i, out, h22, him, hnx, hrow, hol, hall⟩
      have hv' := hv.sub hg.sub
      have hw' := hw.sub hg.sub
      simp (disch := first | omega | decide) only [push_cast, ↓reduceIte, Nat.reduceLT, Nat.reduceEqDiff, reduceCtorEq, Nat.reduceAdd, if_true, if_false, true_and, and_true, hk.n, hk.df, hk.tm, hn, hd, ha, h22]
      refine condV_of (fun hlt => ?_) (fun hge => ?_)
      · have hi : i < zs.length := by have := hlt; simp at this; omega
        obtain ⟨k, hk1⟩ : ∃ k : Nat, k = zs.length - 1 - i := ⟨_, rfl⟩
        have hk2 : (zs.length : Int) - 1 - i = k := by omega
        obtain ⟨z0, hz0, hzk, hzk'⟩ := hp.get hi
        have hst := fun b i' (hi' : i' < out.length) => stRow sl23 hrow one_bool i' b hi'
        simp (disch := first | omega | decide) only [push_cast, ↓reduceIte, Nat.reduceLT, Nat.reduceEqDiff, reduceCtorEq, Nat.reduceAdd, if_true, if_false, true_and, and_true, hk.n, hk.df, hk.tm, hn, hd, ha, h22, lenS Try.underlying23, hk2, hv'.idxI sl22, hv'.ldI sl22, hzk, hw'.idxB sl23, hw'.ldB sl23, idxL sl23, hst, wrapI]
        refine ⟨m - 1, by omega, (by simp (disch := decide) only [Kp_put, put_none, hk]), hg.set hwf (Nat.le_refl _) hnx _, i + 1, out.set z0 (bs.getD k false), ?_, by omega, by simpa using hnx, by simp [AH.set_get], by simp [hol], fun j hj => ?_⟩
        · simp (disch := first | omega | decide) only [push_cast, ↓reduceIte, Nat.reduceLT, Nat.reduceEqDiff, reduceCtorEq, Nat.reduceAdd, if_true, if_false, true_and, and_true]
        · by_cases e : j = i
          · subst e
            rw [← hk1, hzk, Int.toNat_natCast, List.getElem?_set_self (by omega)]
            simp [List.getD_eq_getElem?_getD, show k < bs.length by omega]
          · obtain ⟨z1, hz1, hz2, hz3⟩ := hp.get (show j < zs.length by omega)
            have hne : z0 ≠ z1 := by
              rintro rfl
              have := hp.inj hzk' hz3
              omega
            have := hall j (by omega)
            rw [hz2, Int.toNat_natCast] at this ⊢
            rw [List.getElem?_set_ne hne]; exact this
      · have hi : i = zs.length := by have := hge; simp at this; omega
        simp (disch := first | omega | decide) only [push_cast, ↓reduceIte, Nat.reduceLT, Nat.reduceEqDiff, reduceCtorEq, Nat.reduceAdd, if_true, if_false, true_and, and_true, hk.n, hk.df, hk.tm, hn, hd, ha, h22]
        refine ⟨hg, .inr ⟨hc, h.next, out, rfl, ⟨hol, fun k z hz => ?_⟩, hol, Nat.le_refl _, hrow⟩⟩
        have hkl := (List.getElem?_eq_some_iff.1 hz).1
        have := hall k (by omega)
        rw [List.getD_eq_getElem?_getD, hz] at this
        exact this

end Go.Ab.S1
