/- netlablaw31.ScanLoadMatches on the abstract heap: true. -/
import Derived.Test.YtnejoceplinjpaaS1g
namespace Go.Ab.S1
open Go.Proofs
set_option linter.unusedSimpArgs false
set_option linter.unusedVariables false
attribute [local push_cast] wpA_skip wpA_ret wpA_exit wpA_seq wpA_block wpA_cond2 andK_true wpA_region wpA_draw wpA_loop thenQ_normal thenQ_ret thenQ_exit blockQ_normal blockQ_ret blockQ_exit condV_true condV_false opsM_nil opsM_cons2 okM_true wantM_true wantM_false stepM seqM_cons2 seqM_nil2 okS_true wantS_true wantS_false stepS skipS okB Keeps_nil contK_app List.zip_cons_cons List.zip_nil_left List.zip_nil_right Op.operands Call.operands Array.toList_append List.append_nil List.nil_append List.all_cons List.all_nil cOK plain put_n put_tm put_none put_df ev_tmp ev_const ev_func wanted_none wanted_some callR_func dop ex_some1 aBuiltin aBin intBin aUn Option.map_some Bool.and_true Bool.true_and Bool.and_self List.map_cons List.map_nil List.toList_toArray List.getElem?_toArray List.getElem?_cons_zero List.getElem?_cons_succ Option.getD_some Option.getD_none Bool.false_eq_true eq_self_iff_true decide_true decide_false List.cons_append aExtract resL resV List.getD_cons_zero List.getD_cons_succ List.getD_nil Nat.succ_ne_self g1 g2 yieldedA Option.bind_some Option.bind_none bne_self_eq_false beq_self_eq_true Bool.not_true Bool.not_false Int.toNat_natCast List.length_map List.mem_cons List.not_mem_nil or_false not_false_eq_true decide_not Bool.not_not bodyR_ret2 bodyR_normal2 closeMarks_nil ex_some0 Nat.zero_add Nat.add_zero

theorem IsLoad.unique {zs : List Int} {bs o1 o2 : List Bool} (h1 : IsLoad zs bs o1) (h2 : IsLoad zs bs o2) : o1 = o2 := by
  apply List.ext_getElem?
  intro j
  by_cases hj : j < zs.length
  · have hk : zs[zs.length - 1 - j]? = some zs[zs.length - 1 - j] := List.getElem?_eq_getElem (by omega)
    have e1 := h1.2 _ _ hk
    have e2 := h2.2 _ _ hk
    have : zs.length - 1 - (zs.length - 1 - j) = j := by omega
    rw [this] at e1 e2
    rw [e1, e2]
  · rw [List.getElem?_eq_none (by have := h1.1; omega), List.getElem?_eq_none (by have := h2.1; omega)]

theorem IsUnload.unique {zs : List Int} {bs o1 o2 : List Bool} (hp : IsPerm zs) (h1 : IsUnload zs bs o1) (h2 : IsUnload zs bs o2) : o1 = o2 := by
  apply List.ext_getElem?
  intro j
  by_cases hj : j < zs.length
  · obtain ⟨k, hk⟩ := hp.onto hj
    have e1 := h1.2 k _ hk
    have e2 := h2.2 k _ hk
    rw [Int.toNat_natCast] at e1 e2
    rw [e1, e2]
  · rw [List.getElem?_eq_none (by have := h1.1; omega), List.getElem?_eq_none (by have := h2.1; omega)]

theorem SlOf.nil (h : AH) : SlOf h (.slice none 0 0) [] := ⟨none, 0, 0, rfl, rfl, (fun q e => by cases e), .inl rfl⟩

set_option maxRecDepth 100000 in
theorem scanLoadMatches (hA : ∀ h, ACall Try.prog 7 [] h (fun v h' => v = .bool true ∧ h' = h)) {h : AH} {v1 v2 : Value} {zs : List Int} {bs : List Bool} (hv : SlOf h v1 (zs.map (.int .i64))) (hw : SlOf h v2 (bs.map .bool)) :
    ACall Try.prog 3 [v1, v2] h (fun r _ => r = .bool true) := by
  refine ACall.of_wp 95 [.tmp 4] Try.func3 rfl (by kernel_rfl) rfl rfl fun a hn hd ha => ?_
  simp (disch := first | omega | decide) only [push_cast, ↓reduceIte, Nat.reduceLT, Nat.reduceEqDiff, reduceCtorEq, Nat.reduceAdd, if_true, if_false, true_and, and_true, hn, hd, ha, hv.lenM Try.underlying22]
  have long : ∀ (b : Bool) (F G : AAct → AH → Prop) (a' : AAct), (b = true → F a' h) → (b = false → G a' h) → condV (.bool b) F G a' h := fun b F G a' x y => condV_of x y
  refine wantM_not (fun h0 => ?_) (fun h0 => ?_)
  · simp (disch := first | omega | decide) only [push_cast, ↓reduceIte, Nat.reduceLT, Nat.reduceEqDiff, reduceCtorEq, Nat.reduceAdd, if_true, if_false, true_and, and_true, hn, hd, ha, h0]
    refine ACall.mono ?_ (hA _)
    rintro _ _ ⟨rfl, rfl⟩
    simp (disch := first | omega | decide) only [push_cast, ↓reduceIte, Nat.reduceLT, Nat.reduceEqDiff, reduceCtorEq, Nat.reduceAdd, if_true, if_false, true_and, and_true, hn, hd, ha]
  have hl1 : zs.length ≤ 100 := by simp at h0; omega
  simp (disch := first | omega | decide) only [push_cast, ↓reduceIte, Nat.reduceLT, Nat.reduceEqDiff, reduceCtorEq, Nat.reduceAdd, if_true, if_false, true_and, and_true, hn, hd, ha, h0, hw.lenM Try.underlying23]
  refine condV_of (fun h1 => ?_) (fun h1 => ?_)
  · simp (disch := first | omega | decide) only [push_cast, ↓reduceIte, Nat.reduceLT, Nat.reduceEqDiff, reduceCtorEq, Nat.reduceAdd, if_true, if_false, true_and, and_true, hn, hd, ha]
    refine ACall.mono ?_ (hA _)
    rintro _ _ ⟨rfl, rfl⟩
    simp (disch := first | omega | decide) only [push_cast, ↓reduceIte, Nat.reduceLT, Nat.reduceEqDiff, reduceCtorEq, Nat.reduceAdd, if_true, if_false, true_and, and_true, hn, hd, ha]
  have hl2 : bs.length ≤ 100 := by simp at h1; omega
  simp (disch := first | omega | decide) only [push_cast, ↓reduceIte, Nat.reduceLT, Nat.reduceEqDiff, reduceCtorEq, Nat.reduceAdd, if_true, if_false, true_and, and_true, hn, hd, ha]
  refine ACall.mono ?_ (ACall.wfPost (loadR hv hw (by omega)))
  rintro r1 k1 ⟨⟨hs1, hr1⟩, hwf1⟩
  have hv1 := hv.sub hs1
  have hw1 := hw.sub hs1
  by_cases hc : chainE zs bs.length = 0
  · obtain ⟨hp, hlen⟩ := chainE_zero hc
    rcases hr1 with ⟨hx, _⟩ | ⟨_, ua, oa, rfl, hla, hsa⟩
    · exact absurd hc hx
    simp (disch := first | omega | decide) only [push_cast, ↓reduceIte, Nat.reduceLT, Nat.reduceEqDiff, reduceCtorEq, Nat.reduceAdd, if_true, if_false, true_and, and_true, hn, hd, ha]
    refine ACall.mono ?_ (unloadR hv1 hw1 (by omega))
    rintro r2 k2 ⟨hg2, hr2⟩
    rcases hr2 with ⟨hx, _⟩ | ⟨_, Bb, ob, rfl, hlb, hbl, hBn, hBg⟩
    · exact absurd hc hx
    have hsa2 := hsa.sub hg2.sub
    have hsb2 : SlOf k2 (.slice (some ⟨Bb, 0, none⟩) zs.length zs.length) (ob.map .bool) := SlOf.lit hBg rfl (by simp [hbl])
    have hv2 := hv1.sub hg2.sub
    have hw2 := hw1.sub hg2.sub
    have hwf2 := hg2.wf
    simp (disch := first | omega | decide) only [push_cast, ↓reduceIte, Nat.reduceLT, Nat.reduceEqDiff, reduceCtorEq, Nat.reduceAdd, if_true, if_false, true_and, and_true, hn, hd, ha]
    refine AW.loopK 36 [9, 10, 11, 12, 13, 14] (fun m a' h' => Gr k2 h' ∧ ∃ i : Nat, a'.tm 9 = .int .i64 i ∧ i + m = 2) 2 ?_ ?_
    · exact ⟨Gr.refl hwf2, 0, by simp (disch := first | omega | decide) only [push_cast, ↓reduceIte, Nat.reduceLT, Nat.reduceEqDiff, reduceCtorEq, Nat.reduceAdd, if_true, if_false, true_and, and_true], by omega⟩
    · rintro m a1 k3 hk ⟨hg3, i, h9, him⟩
      simp (disch := first | omega | decide) only [push_cast, ↓reduceIte, Nat.reduceLT, Nat.reduceEqDiff, reduceCtorEq, Nat.reduceAdd, if_true, if_false, true_and, and_true, hk.n, hk.df, hk.tm, hn, hd, ha, h9]
      refine condV_of (fun hlt => ?_) (fun hge => ?_)
      · have hi : i < 2 := by have := hlt; simp at this; omega
        simp (disch := first | omega | decide) only [push_cast, ↓reduceIte, Nat.reduceLT, Nat.reduceEqDiff, reduceCtorEq, Nat.reduceAdd, if_true, if_false, true_and, and_true, hk.n, hk.df, hk.tm, hn, hd, ha, h9]
        refine ACall.mono ?_ (loadO (hv2.sub hg3.sub) (hw2.sub hg3.sub) (by omega))
        rintro r4 k4 ⟨hg4, hr4⟩
        rcases hr4 with ⟨hx, _⟩ | ⟨_, A, ox, rfl, hlx, hxl, hAn, hAg⟩
        · exact absurd hc hx
        have hg24 := hg3.trans hg4
        simp (disch := first | omega | decide) only [push_cast, ↓reduceIte, Nat.reduceLT, Nat.reduceEqDiff, reduceCtorEq, Nat.reduceAdd, if_true, if_false, true_and, and_true, hk.n, hk.df, hk.tm, hn, hd, ha, h9]
        refine ACall.mono ?_ (unloadO (hv2.sub hg24.sub) (hw2.sub hg24.sub) (by omega))
        rintro r5 k5 ⟨hg5, hr5⟩
        rcases hr5 with ⟨hx, _⟩ | ⟨_, B, oy, rfl, hly, hyl, hBn5, hBg5⟩
        · exact absurd hc hx
        have hg25 := hg24.trans hg5
        have hAg5 := hg5.sub _ _ hAg
        have hxa : ox = oa := hlx.unique hla
        have hyb : oy = ob := hly.unique hp hlb
        subst hxa
        subst hyb
        simp (disch := first | omega | decide) only [push_cast, ↓reduceIte, Nat.reduceLT, Nat.reduceEqDiff, reduceCtorEq, Nat.reduceAdd, if_true, if_false, true_and, and_true, hk.n, hk.df, hk.tm, hn, hd, ha, h9]
        refine ACall.mono ?_ (eqBools (SlOf.lit (A := A) (cap := zs.length) (n := zs.length) hAg5 rfl (by simp [hxl])) (hsa2.sub hg25.sub) (by omega))
        rintro _ _ ⟨rfl, rfl⟩
        simp (disch := first | omega | decide) only [push_cast, ↓reduceIte, Nat.reduceLT, Nat.reduceEqDiff, reduceCtorEq, Nat.reduceAdd, if_true, if_false, true_and, and_true, hk.n, hk.df, hk.tm, hn, hd, ha, h9]
        refine ACall.mono ?_ (eqBools (SlOf.lit (A := B) (cap := zs.length) (n := zs.length) hBg5 rfl (by simp [hyl])) (hsb2.sub hg25.sub) (by omega))
        rintro _ k5 ⟨rfl, rfl⟩
        simp (disch := first | omega | decide) only [push_cast, ↓reduceIte, Nat.reduceLT, Nat.reduceEqDiff, reduceCtorEq, Nat.reduceAdd, if_true, if_false, true_and, and_true, hk.n, hk.df, hk.tm, hn, hd, ha, h9]
        have hA4 : A < k4.next := AH.get_lt hg4.wf hAg
        have hne : A ≠ B := by omega
        have hn24 := hg24.nx
        have hn3 := hg3.nx
        refine AW.loopK 72 [14] (fun m a' h' => Gr k2 h' ∧ ∃ (j : Nat) (xs ys : List Bool), a'.tm 14 = .int .i64 j ∧ j + m = zs.length ∧ h'.get A = some (.row (xs.map .bool) 4 true) ∧ h'.get B = some (.row (ys.map .bool) 4 true) ∧ xs.length = zs.length ∧ ys.length = zs.length) zs.length ?_ ?_
        · exact ⟨hg25, 0, ox, oy, by simp (disch := first | omega | decide) only [push_cast, ↓reduceIte, Nat.reduceLT, Nat.reduceEqDiff, reduceCtorEq, Nat.reduceAdd, if_true, if_false, true_and, and_true], by omega, hAg5, hBg5, hxl, hyl⟩
        · rintro m2 a2 k6 hk2 ⟨hg6, j, xs, ys, h14, hjm, hA6, hB6, hxs, hys⟩
          simp (disch := first | omega | decide) only [push_cast, ↓reduceIte, Nat.reduceLT, Nat.reduceEqDiff, reduceCtorEq, Nat.reduceAdd, if_true, if_false, true_and, and_true, hk2.n, hk2.df, hk2.tm, hk.n, hk.df, hk.tm, hn, hd, ha, h14, lenS Try.underlying23]
          refine condV_of (fun hlt => ?_) (fun hge => ?_)
          · have hj : j < zs.length := by have := hlt; simp at this; omega
            have hst1 := fun b i' (hi' : i' < xs.length) => stRow sl23 hA6 one_bool i' b hi'
            have hB7 : ∀ o, (k6.set A o).get B = some (.row (ys.map .bool) 4 true) := fun o => by rw [AH.set_get, if_neg (fun e => hne e.symm)]; exact hB6
            have hst2 := fun o b i' (hi' : i' < ys.length) => stRow sl23 (hB7 o) one_bool i' b hi'
            simp (disch := first | omega | decide) only [push_cast, ↓reduceIte, Nat.reduceLT, Nat.reduceEqDiff, reduceCtorEq, Nat.reduceAdd, if_true, if_false, true_and, and_true, hk2.n, hk2.df, hk2.tm, hk.n, hk.df, hk.tm, hn, hd, ha, h14]
            refine AW.drawT (.take 0 [17, 16, 15, 14] (.take 1 [17, 16, 15, 14] (.take 2 [17, 16] (.take 3 [17, 16] (.take 4 [17, 16, 15, 14, 8, 7, 6] (.take 5 [17, 16, 15, 14, 8, 7, 6] (.take 6 [17, 16, 15, 14, 8, 7] (.take 7 [17, 16, 15, 14, 8] (.take 8 [17, 16, 15, 14] (.take 9 [17, 16, 15, 14, 13, 12, 11] (.take 10 [17, 16, 15, 14, 13, 12, 11] (.take 11 [17, 16, 15, 14, 13, 12] (.take 12 [17, 16, 15, 14, 13] (.take 13 [17, 16] (.take 14 [17, 16, 15] (.only 15 (.take 16 [17] (.only 17 .done)))))))))))))))))) [0, 0, 0, 0, 0, 0, 0, 0, 0, 0, 0, 0, 0, 0, 0, 2, 0, 2] mixed (by kernel_rfl) (by kernel_rfl) ?_
            simp (disch := first | omega | decide) only [push_cast, ↓reduceIte, Nat.reduceLT, Nat.reduceEqDiff, reduceCtorEq, Nat.reduceAdd, if_true, if_false, true_and, and_true, hk2.n, hk2.df, hk2.tm, hk.n, hk.df, hk.tm, hn, hd, ha, h14, idxL sl23, ldRow sl23 false hA6 rfl, ldRow sl23 false hB6 rfl, hst1, hst2, wrapI]
            have hA7 : A < k6.next := AH.get_lt hg6.wf hA6
            have hB8 : B < k6.next := AH.get_lt hg6.wf hB6
            refine ⟨m2 - 1, by omega, (by simp (disch := decide) only [Kp_put, put_none, hk2]), (hg6.set hwf2 (by omega) hA7 _).set hwf2 (by omega) hB8 _, j + 1, xs.set j (!xs.getD j false), ys.set j (!ys.getD j false), by simp (disch := first | omega | decide) only [push_cast, ↓reduceIte, Nat.reduceLT, Nat.reduceEqDiff, reduceCtorEq, Nat.reduceAdd, if_true, if_false, true_and, and_true], by omega, by simp [AH.set_get, hne], by simp [AH.set_get], by simpa using hxs, by simpa using hys⟩
          · simp (disch := first | omega | decide) only [push_cast, ↓reduceIte, Nat.reduceLT, Nat.reduceEqDiff, reduceCtorEq, Nat.reduceAdd, if_true, if_false, true_and, and_true, hk2.n, hk2.df, hk2.tm, hk.n, hk.df, hk.tm, hn, hd, ha, h9, wrapI]
            refine ⟨m - 1, by omega, ?_, hg6, i + 1, by simp (disch := first | omega | decide) only [push_cast, ↓reduceIte, Nat.reduceLT, Nat.reduceEqDiff, reduceCtorEq, Nat.reduceAdd, if_true, if_false, true_and, and_true], by omega⟩
            simp (disch := decide) only [Kp_put, put_none]
            exact Kp.trans (by simp (disch := decide) only [Kp_put, put_none, hk]) hk2 (by omega) (by simp)
      · simp (disch := first | omega | decide) only [push_cast, ↓reduceIte, Nat.reduceLT, Nat.reduceEqDiff, reduceCtorEq, Nat.reduceAdd, if_true, if_false, true_and, and_true, hk.n, hk.df, hk.tm, hn, hd, ha, h9]
        refine ACall.mono ?_ (hA _)
        rintro _ _ ⟨rfl, rfl⟩
        simp (disch := first | omega | decide) only [push_cast, ↓reduceIte, Nat.reduceLT, Nat.reduceEqDiff, reduceCtorEq, Nat.reduceAdd, if_true, if_false, true_and, and_true, hk.n, hk.df, hn, hd, ha]
  · rcases hr1 with ⟨_, rfl⟩ | ⟨hx, _⟩
    case inr => exact absurd hx hc
    simp (disch := first | omega | decide) only [push_cast, ↓reduceIte, Nat.reduceLT, Nat.reduceEqDiff, reduceCtorEq, Nat.reduceAdd, if_true, if_false, true_and, and_true, hn, hd, ha]
    refine ACall.mono ?_ (unloadR hv1 hw1 (by omega))
    rintro r2 k2 ⟨hg2, hr2⟩
    rcases hr2 with ⟨_, rfl, rfl⟩ | ⟨hx, _⟩
    case inr => exact absurd hx hc
    simp (disch := first | omega | decide) only [push_cast, ↓reduceIte, Nat.reduceLT, Nat.reduceEqDiff, reduceCtorEq, Nat.reduceAdd, if_true, if_false, true_and, and_true, hn, hd, ha]
    refine AW.loopK 36 [9, 10, 11, 12, 13, 14] (fun m a' h' => Gr k2 h' ∧ ∃ i : Nat, a'.tm 9 = .int .i64 i ∧ i + m = 2) 2 ?_ ?_
    · exact ⟨Gr.refl hwf1, 0, by simp (disch := first | omega | decide) only [push_cast, ↓reduceIte, Nat.reduceLT, Nat.reduceEqDiff, reduceCtorEq, Nat.reduceAdd, if_true, if_false, true_and, and_true], by omega⟩
    · rintro m a1 k3 hk ⟨hg3, i, h9, him⟩
      simp (disch := first | omega | decide) only [push_cast, ↓reduceIte, Nat.reduceLT, Nat.reduceEqDiff, reduceCtorEq, Nat.reduceAdd, if_true, if_false, true_and, and_true, hk.n, hk.df, hk.tm, hn, hd, ha, h9]
      refine condV_of (fun hlt => ?_) (fun hge => ?_)
      · have hi : i < 2 := by have := hlt; simp at this; omega
        simp (disch := first | omega | decide) only [push_cast, ↓reduceIte, Nat.reduceLT, Nat.reduceEqDiff, reduceCtorEq, Nat.reduceAdd, if_true, if_false, true_and, and_true, hk.n, hk.df, hk.tm, hn, hd, ha, h9]
        refine ACall.mono ?_ (loadO (hv1.sub hg3.sub) (hw1.sub hg3.sub) (by omega))
        rintro r4 k4 ⟨hg4, hr4⟩
        rcases hr4 with ⟨_, rfl, rfl⟩ | ⟨hx, _⟩
        case inr => exact absurd hx hc
        simp (disch := first | omega | decide) only [push_cast, ↓reduceIte, Nat.reduceLT, Nat.reduceEqDiff, reduceCtorEq, Nat.reduceAdd, if_true, if_false, true_and, and_true, hk.n, hk.df, hk.tm, hn, hd, ha, h9]
        refine ACall.mono ?_ (unloadO (hv1.sub hg3.sub) (hw1.sub hg3.sub) (by omega))
        rintro r5 k5 ⟨hg5, hr5⟩
        rcases hr5 with ⟨_, rfl, rfl⟩ | ⟨hx, _⟩
        case inr => exact absurd hx hc
        simp (disch := first | omega | decide) only [push_cast, ↓reduceIte, Nat.reduceLT, Nat.reduceEqDiff, reduceCtorEq, Nat.reduceAdd, if_true, if_false, true_and, and_true, hk.n, hk.df, hk.tm, hn, hd, ha, h9]
        refine ACall.mono ?_ (eqBools (xs := []) (ys := []) (SlOf.nil _) (SlOf.nil _) (by simp))
        rintro _ _ ⟨rfl, rfl⟩
        simp (disch := first | omega | decide) only [push_cast, ↓reduceIte, Nat.reduceLT, Nat.reduceEqDiff, reduceCtorEq, Nat.reduceAdd, if_true, if_false, true_and, and_true, hk.n, hk.df, hk.tm, hn, hd, ha, h9]
        refine ACall.mono ?_ (eqBools (xs := []) (ys := []) (SlOf.nil _) (SlOf.nil _) (by simp))
        rintro _ k5 ⟨rfl, rfl⟩
        simp (disch := first | omega | decide) only [push_cast, ↓reduceIte, Nat.reduceLT, Nat.reduceEqDiff, reduceCtorEq, Nat.reduceAdd, if_true, if_false, true_and, and_true, hk.n, hk.df, hk.tm, hn, hd, ha, h9]
        refine AW.loopK 72 [14] (fun m a' h' => Gr k2 h' ∧ a'.tm 14 = .int .i64 0) 0 ?_ ?_
        · exact ⟨hg3, by simp (disch := first | omega | decide) only [push_cast, ↓reduceIte, Nat.reduceLT, Nat.reduceEqDiff, reduceCtorEq, Nat.reduceAdd, if_true, if_false, true_and, and_true]⟩
        · rintro m2 a2 k6 hk2 ⟨hg6, h14⟩
          simp (disch := first | omega | decide) only [push_cast, ↓reduceIte, Nat.reduceLT, Nat.reduceEqDiff, reduceCtorEq, Nat.reduceAdd, if_true, if_false, true_and, and_true, hk2.n, hk2.df, hk2.tm, hk.n, hk.df, hk.tm, hn, hd, ha, h14, h9, lenS Try.underlying23, Int.lt_irrefl, Int.ofNat_zero, wrapI]
          refine ⟨m - 1, by omega, ?_, hg6, i + 1, by simp (disch := first | omega | decide) only [push_cast, ↓reduceIte, Nat.reduceLT, Nat.reduceEqDiff, reduceCtorEq, Nat.reduceAdd, if_true, if_false, true_and, and_true], by omega⟩
          simp (disch := decide) only [Kp_put, put_none]
          exact Kp.trans (by simp (disch := decide) only [Kp_put, put_none, hk]) hk2 (by omega) (by simp)
      · simp (disch := first | omega | decide) only [push_cast, ↓reduceIte, Nat.reduceLT, Nat.reduceEqDiff, reduceCtorEq, Nat.reduceAdd, if_true, if_false, true_and, and_true, hk.n, hk.df, hk.tm, hn, hd, ha, h9]
        refine ACall.mono ?_ (hA _)
        rintro _ _ ⟨rfl, rfl⟩
        simp (disch := first | omega | decide) only [push_cast, ↓reduceIte, Nat.reduceLT, Nat.reduceEqDiff, reduceCtorEq, Nat.reduceAdd, if_true, if_false, true_and, and_true, hk.n, hk.df, hn, hd, ha]
end Go.Ab.S1
