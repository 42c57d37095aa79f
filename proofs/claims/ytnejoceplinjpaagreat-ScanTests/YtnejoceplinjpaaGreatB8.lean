/- netlist.Order and netlist.Check on the abstract heap. netlist.Check, netlist.Area, netlist.Start and scan.check on the abstract heap. table.Eval, table.permutation, table.permute and table.Permute on the abstract heap. slices.Clone of flops and of int64s, slices.Contains, scan.Insert's shift, the long-tests. slices.Clone of ints as a slice of one's own; scan.Insert's shift; slices.Contains; the long-tests. -/
import Derived.Test.YtnejoceplinjpaaGreatB7
set_option linter.unusedSimpArgs false
set_option linter.unusedVariables false
namespace Go.Ab.S1
open Go.Proofs
set_option linter.unusedSimpArgs false
set_option linter.unusedVariables false
set_option maxRecDepth 100000
set_option maxHeartbeats 4000000
attribute [local push_cast] wpA_skip wpA_ret wpA_exit wpA_seq wpA_block wpA_cond2 andK_true wpA_region wpA_draw wpA_loop thenQ_normal thenQ_ret thenQ_exit blockQ_normal blockQ_ret blockQ_exit condV_true condV_false opsM_nil opsM_cons2 okM_true wantM_true wantM_false stepM seqM_cons2 seqM_nil2 okS_true wantS_true wantS_false stepS skipS okB Keeps_nil contK_app List.zip_cons_cons List.zip_nil_left List.zip_nil_right Op.operands Call.operands Array.toList_append List.append_nil List.nil_append List.all_cons List.all_nil cOK plain put_n put_tm put_none put_df ev_tmp ev_const ev_func wanted_none wanted_some callR_func dop ex_some1 aBuiltin aBin intBin aUn Option.map_some Bool.and_true Bool.true_and Bool.and_self List.map_cons List.map_nil List.toList_toArray List.getElem?_toArray List.getElem?_cons_zero List.getElem?_cons_succ Option.getD_some Option.getD_none Bool.false_eq_true eq_self_iff_true decide_true decide_false List.cons_append aExtract resL resV List.getD_cons_zero List.getD_cons_succ List.getD_nil Nat.succ_ne_self g1 g2 yieldedA2 isB_bool isB_undef g3 Option.bind_some Option.bind_none bne_self_eq_false beq_self_eq_true Bool.not_true Bool.not_false Int.toNat_natCast List.length_map List.mem_cons List.not_mem_nil or_false not_false_eq_true decide_not Bool.not_not bodyR_ret2 bodyR_normal2 closeMarks_nil ex_some0 Nat.zero_add Nat.add_zero ieq ine List.map_toArray Option.toArray_none Option.toArray_some oev Keeps_cons Still_eq selL wpX_skip wpX_ret wpX_exit wpX_seq wpX_block wpX_cond wpX_region wpX_draw wpX_loop List.take_succ_cons List.take_zero List.drop_succ_cons List.drop_zero Int.zero_add Int.add_zero aNil

theorem zrH : Zr Tryz.prog 111 [.slice none 0 0] := ⟨(Tryz.prog.info? 111).get (by kernel_rfl), .slice none 0 0, by kernel_rfl, by kernel_rfl, rfl, rfl, rfl⟩

/-- Behind the two rows' laying. -/
def Laid (N : Nat) (b : AH) (B : Nat) (a : AAct) (h : AH) : Prop :=
  a.n = 114 ∧ a.df = [] ∧ a.tm 1 = .pointer (some ⟨B, 0, none⟩) ∧ ∃ M0 U0, a.tm 5 = .slice (some ⟨M0, 0, none⟩) N N ∧ a.tm 6 = .slice (some ⟨U0, 0, none⟩) N N ∧ Gr b h ∧ b.next ≤ M0 ∧ b.next ≤ U0 ∧ M0 ≠ U0 ∧
    h.get M0 = some (.row ((List.replicate N (0 : Int)).map (.int .i64)) 3 true) ∧ h.get U0 = some (.row (List.replicate N (.slice none 0 0)) 25 true)

theorem orderN {h : AH} {n : Net} {cv fv iv ov : Value} (r : NetR h n cv fv iv ov) (ok : NetOK n) :
    ACall Tryz.prog 50 [.agg (netC n cv fv iv ov).toArray] h (OrderPost n h) := by
  refine ACall.wf ⟨_, Tryz.func50, rfl, by kernel_rfl⟩ fun hwf => ?_
  refine ACall.of_wp 114 [.tmp 2, .tmp 3] Tryz.func50 rfl (by kernel_rfl) rfl rfl fun a hn hd ha => ?_
  have hbox := boxA 27 h _ r.one
  have hN := NetAt.new (h := h) (n := n) (cv := cv) (fv := fv) (iv := iv) (ov := ov)
  have r1 := r.sub (Sub.new hwf (.row (netC n cv fv iv ov) 27 true))
  have g1 : Gr h (h.new (.row (netC n cv fv iv ov) 27 true)) := (Gr.refl hwf).new _
  simp (disch := first | omega | decide | (simp only [List.length_cons, List.length_nil] <;> omega)) only [push_cast, ↓reduceIte, Nat.reduceLT, Nat.reduceEqDiff, reduceCtorEq, Nat.reduceAdd, if_true, if_false, true_and, and_true, hn, hd, ha, hbox, faL foN0, faL foN1, faL foN2, faL foN3, faL foN4, hN.l0, hN.l1, hN.l2, hN.l3, hN.l4, hN.la]
  generalize h.new (.row (netC n cv fv iv ov) 27 true) = h1 at hN r1 g1 ⊢
  generalize h.next = B at hN ⊢
  refine ACall.mono ?_ (shape r1 ok)
  rintro _ h1 ⟨rfl, rfl⟩
  simp (disch := first | omega | decide | (simp only [List.length_cons, List.length_nil] <;> omega)) only [push_cast, ↓reduceIte, Nat.reduceLT, Nat.reduceEqDiff, reduceCtorEq, Nat.reduceAdd, if_true, if_false, true_and, and_true, hn, hd, ha]
  refine condV_not (fun e0 => ?_) (fun e0 => ?_)
  · have e : shapeE n ≠ 0 := by simpa using e0
    simp (disch := first | omega | decide | (simp only [List.length_cons, List.length_nil] <;> omega)) only [push_cast, ↓reduceIte, Nat.reduceLT, Nat.reduceEqDiff, reduceCtorEq, Nat.reduceAdd, if_true, if_false, true_and, and_true, hn, hd, ha]
    exact ⟨g1, .inl ⟨e, rfl⟩⟩
  have e0' : shapeE n = 0 := by simpa using e0
  have s := ShapeOK.of e0'
  have hil := s.il
  have w0 := g1.wf
  simp (disch := first | omega | decide | (simp only [List.length_cons, List.length_nil] <;> omega)) only [push_cast, ↓reduceIte, Nat.reduceLT, Nat.reduceEqDiff, reduceCtorEq, Nat.reduceAdd, if_true, if_false, true_and, and_true, hn, hd, ha]
  refine AW.mono (Q := fun e a' h' => e = .normal ∧ Laid n.insts.length h1 B a' h') ?_ ?_
  case refine_2 =>
    have hm1 := fun hh => aMakeSlice_at t22 hh n.insts.length (by omega) (by omega)
    have hm2 := fun hh => aMakeSlice_at slTU hh n.insts.length (by omega) (by omega)
    have hN2 := fun o => hN.sub (Sub.new w0 o)
    refine AW.draw2 (.take 0 [9, 8, 3, 2, 1] (.take 1 [9, 8, 3, 2] (.take 2 [9, 8, 3] (.take 4 [9, 7, 6, 5] (.take 5 [9, 7, 6] (.take 6 [9, 7] (.two 3 (.take 8 [9] (.only 7 (.take 9 [] .done))) 7 (.only 3 (.take 8 [9] (.take 9 [] .done)))))))))) [(0, 0), (0, 1), (0, 2), (0, 4), (0, 5), (0, 6)] [(2, 3), (0, 8), (2, 7), (0, 9)] [(2, 7), (2, 3), (0, 8), (0, 9)] mixed (by kernel_rfl) (by kernel_rfl) ?_
    simp (disch := first | omega | decide | (simp only [List.length_cons, List.length_nil] <;> omega)) only [push_cast, ↓reduceIte, Nat.reduceLT, Nat.reduceEqDiff, reduceCtorEq, Nat.reduceAdd, if_true, if_false, true_and, and_true, hn, hd, ha, faL foN0, faL foN1, faL foN2, faL foN3, faL foN4, hN.l0, hN.l1, hN.l2, hN.l3, hN.l4, hN.la, r1.i.len Tryz.underlying24, hm1, hm2]
    have hrep : List.replicate n.insts.length (Value.int .i64 0) = (List.replicate n.insts.length (0 : Int)).map (.int .i64) := by simp
    have ga := (Gr.refl w0).new (.row (List.replicate n.insts.length (.int .i64 0)) 3 true)
    have gb := (Gr.refl w0).new (.row (List.replicate n.insts.length (.slice none 0 0)) 25 true)
    refine ⟨⟨by simp (disch := first | omega | decide | (simp only [List.length_cons, List.length_nil] <;> omega)) only [push_cast, ↓reduceIte, Nat.reduceLT, Nat.reduceEqDiff, reduceCtorEq, Nat.reduceAdd, if_true, if_false, true_and, and_true, hn], by simp (disch := first | omega | decide | (simp only [List.length_cons, List.length_nil] <;> omega)) only [push_cast, ↓reduceIte, Nat.reduceLT, Nat.reduceEqDiff, reduceCtorEq, Nat.reduceAdd, if_true, if_false, true_and, and_true, hd], by simp (disch := first | omega | decide | (simp only [List.length_cons, List.length_nil] <;> omega)) only [push_cast, ↓reduceIte, Nat.reduceLT, Nat.reduceEqDiff, reduceCtorEq, Nat.reduceAdd, if_true, if_false, true_and, and_true], h1.next, h1.next + 1, by simp (disch := first | omega | decide | (simp only [List.length_cons, List.length_nil] <;> omega)) only [push_cast, ↓reduceIte, Nat.reduceLT, Nat.reduceEqDiff, reduceCtorEq, Nat.reduceAdd, if_true, if_false, true_and, and_true], by simp (disch := first | omega | decide | (simp only [List.length_cons, List.length_nil] <;> omega)) only [push_cast, ↓reduceIte, Nat.reduceLT, Nat.reduceEqDiff, reduceCtorEq, Nat.reduceAdd, if_true, if_false, true_and, and_true, AH.new_next], ga.new _, Nat.le_refl _, by omega, by omega, ?_, ?_⟩, by simp (disch := first | omega | decide | (simp only [List.length_cons, List.length_nil] <;> omega)) only [push_cast, ↓reduceIte, Nat.reduceLT, Nat.reduceEqDiff, reduceCtorEq, Nat.reduceAdd, if_true, if_false, true_and, and_true, hn], by simp (disch := first | omega | decide | (simp only [List.length_cons, List.length_nil] <;> omega)) only [push_cast, ↓reduceIte, Nat.reduceLT, Nat.reduceEqDiff, reduceCtorEq, Nat.reduceAdd, if_true, if_false, true_and, and_true, hd], by simp (disch := first | omega | decide | (simp only [List.length_cons, List.length_nil] <;> omega)) only [push_cast, ↓reduceIte, Nat.reduceLT, Nat.reduceEqDiff, reduceCtorEq, Nat.reduceAdd, if_true, if_false, true_and, and_true], h1.next + 1, h1.next, by simp (disch := first | omega | decide | (simp only [List.length_cons, List.length_nil] <;> omega)) only [push_cast, ↓reduceIte, Nat.reduceLT, Nat.reduceEqDiff, reduceCtorEq, Nat.reduceAdd, if_true, if_false, true_and, and_true, AH.new_next], by simp (disch := first | omega | decide | (simp only [List.length_cons, List.length_nil] <;> omega)) only [push_cast, ↓reduceIte, Nat.reduceLT, Nat.reduceEqDiff, reduceCtorEq, Nat.reduceAdd, if_true, if_false, true_and, and_true], gb.new _, by omega, Nat.le_refl _, by omega, ?_, ?_⟩
    · rw [AH.new_get, if_neg (by simp), AH.new_get, if_pos rfl, hrep]
    · rw [AH.new_get, if_pos (by simp)]
    · rw [AH.new_get, if_pos (by simp), hrep]
    · rw [AH.new_get, if_neg (by simp), AH.new_get, if_pos rfl]
  clear ha hn hd a
  rintro _ a h' ⟨rfl, hn, hd, ht1, M0, U0, ht5, ht6, hg, hMlo, hUlo, hMU, hMg, hUg⟩
  have hM0 : M0 < h'.next := AH.get_lt hg.wf hMg
  have hU0 : U0 < h'.next := AH.get_lt hg.wf hUg
  have hN3 := hN.sub (hg.sub.trans (Sub.new hg.wf (.row [.slice none 0 0] 111 true)))
  have st0 : St n.insts.length h1 (h'.new (.row [.slice none 0 0] 111 true)) (fun i => if i = 0 then M0 else if i = 1 then U0 else h'.next)
      (fun i => if i = 0 then some (.row ((List.replicate n.insts.length (0 : Int)).map (.int .i64)) 3 true) else if i = 1 then some (.row (List.replicate n.insts.length (.slice none 0 0)) 25 true) else if i = 2 then some (.row [.slice none 0 0] 111 true) else none)
      (List.replicate n.insts.length 0) (fun _ => []) (List.replicate n.insts.length (.slice none 0 0)) [] [] (.slice none 0 0) := by
    refine ⟨⟨fun i o hi => ?_, fun i j o p hi hj hne => ?_, fun i o hi => ?_, hg.new _⟩, rfl, rfl, by simp, fun k hk => ?_, ⟨_, rfl, .inl ⟨rfl, rfl, rfl⟩⟩, .inl ⟨rfl, rfl, rfl⟩⟩
    · by_cases h0 : i = 0
      · subst h0; cases hi; simp only [if_true]; rw [AH.new_get, if_neg (by omega)]; exact hMg
      · by_cases h1 : i = 1
        · subst h1; cases hi; simp only [if_true, Nat.one_ne_zero, if_false]; rw [AH.new_get, if_neg (by omega)]; exact hUg
        · by_cases h2 : i = 2
          · subst h2; cases hi; simp only [show ¬ (2 = 0) by omega, show ¬ (2 = 1) by omega, if_false]; rw [AH.new_get, if_pos rfl]
          · simp [h0, h1, h2] at hi
    · have key : ∀ i o, (if i = 0 then some (AObj.row ((List.replicate n.insts.length (0 : Int)).map (.int .i64)) 3 true) else if i = 1 then some (.row (List.replicate n.insts.length (.slice none 0 0)) 25 true) else if i = 2 then some (.row [.slice none 0 0] 111 true) else none) = some o → i = 0 ∨ i = 1 ∨ i = 2 := by
        intro i o h; split at h
        · left; assumption
        · split at h
          · right; left; assumption
          · split at h
            · right; right; assumption
            · cases h
      rcases key i o hi with rfl | rfl | rfl <;> rcases key j p hj with rfl | rfl | rfl <;> simp <;> omega
    · have hnx := hg.nx
      by_cases h0 : i = 0
      · subst h0; exact hMlo
      · by_cases h1 : i = 1
        · subst h1; exact hUlo
        · simp only [h0, h1, if_false]; exact hnx
    · refine .inl ⟨rfl, by simp [List.getD_eq_getElem?_getD, hk], ?_⟩
      simp only [show ¬ (5 + k = 0) by omega, show ¬ (5 + k = 1) by omega, show ¬ (5 + k = 2) by omega, if_false]
  have hF : 0 ≤ firstE n ∧ firstE n ≤ 128 := by have := s.i0; have := s.i1; have := s.fl; unfold firstE; omega
  have hsm : Small n := ⟨s.i0, by have := s.i1; omega, by have := s.fl; omega, by omega⟩
  have hgH := hg.new (.row [.slice none 0 0] 111 true)
  simp (disch := first | omega | decide | (simp only [List.length_cons, List.length_nil] <;> omega)) only [push_cast, ↓reduceIte, Nat.reduceLT, Nat.reduceEqDiff, reduceCtorEq, Nat.reduceAdd, if_true, if_false, true_and, and_true, hn, hd, ht1, alL zrH, faL foN0, faL foN1, faL foN2, faL foN3, faL foN4, hN3.l0, hN3.l1, hN3.l2, hN3.l3, hN3.l4, hN3.la, r1.i.len Tryz.underlying24]
  generalize hH0 : h'.next = H0 at st0 ⊢
  refine AW.loopN 33 [8, 9, 10, 11, 12] (fun m a' k => ∃ (i : Nat) (nm : Nat → Nat) (ob : Nat → Option AObj) (M : List Int) (us : Nat → List Int) (uv : List Value) (R : List Int), a'.tm 33 = .int .i64 i ∧ i + m = n.insts.length ∧ nm 0 = M0 ∧ nm 1 = U0 ∧ nm 2 = H0 ∧
      St n.insts.length h1 k nm ob M us uv R [] (.slice none 0 0) ∧ BuildP n i 0 M us R) n.insts.length ?_ ?_
  · exact ⟨0, _, _, _, _, _, _, by simp (disch := first | omega | decide | (simp only [List.length_cons, List.length_nil] <;> omega)) only [push_cast, ↓reduceIte, Nat.reduceLT, Nat.reduceEqDiff, reduceCtorEq, Nat.reduceAdd, if_true, if_false, true_and, and_true], by omega, rfl, rfl, rfl, st0, BuildP.start n⟩
  rintro a1 m a2 k1 hk kn kd kt ⟨i, nm, ob, M, us, uv, R, h33, him, hm0, hm1, hm2, st, bp⟩
  have hgk := st.own.gr
  have r2 := r1.sub hgk.sub
  have hN4 := hN.sub hgk.sub
  simp (disch := first | omega | decide | (simp only [List.length_cons, List.length_nil] <;> omega)) only [push_cast, ↓reduceIte, Nat.reduceLT, Nat.reduceEqDiff, reduceCtorEq, Nat.reduceAdd, if_true, if_false, true_and, and_true, kn, kd, kt, hn, hd, ht1, ht5, ht6, h33]
  refine condV_of (fun hlt => ?_) (fun hge => ?_)
  · have hi : i < n.insts.length := by have := hlt; simp at this; omega
    obtain ⟨cs, ⟨pv, rfl, hpv⟩, hld, -, -⟩ := r1.i.get hi default
    replace hld := aLoad_sub hgk.sub (hld _ agI)
    have hp4 : (n.insts.getD i default).pins.length ≤ 4 := s.pinsOf4 hi
    have hpin : ∀ p ∈ (n.insts.getD i default).pins, -2 ≤ p ∧ p < firstE n + n.insts.length := fun p hp => s.pinOf hi hp
    have hpe : pinsOf n i = (n.insts.getD i default).pins := rfl
    rw [← hpe] at hpv hp4 hpin
    generalize (n.insts.getD i default).cell = xc at *
    have hst := fun (hh : AH) cs e hl => stN agI hh cs e [Value.int .i64 xc, pv] hl rfl (by simp only [List.all_cons, List.all_nil, hpv.one]; rfl)
    have gI := hgk.new (.row [Value.int .i64 xc, pv] 36 true)
    have sI := Sub.new hgk.wf (.row [Value.int .i64 xc, pv] 36 true)
    have hI := CsAt.new k1 [Value.int .i64 xc, pv] 36 true
    have stI := st.grown ((Gr.refl hgk.wf).new (.row [Value.int .i64 xc, pv] 36 true))
    simp (disch := first | omega | decide | (simp only [List.length_cons, List.length_nil] <;> omega)) only [push_cast, ↓reduceIte, Nat.reduceLT, Nat.reduceEqDiff, reduceCtorEq, Nat.reduceAdd, if_true, if_false, true_and, and_true, kn, kd, kt, hn, hd, ht1, ht5, ht6, h33, r2.i.idx Tryz.underlying24 infI, hld, alL zrI, hst, faL foI0, faL foI1, hI.ld flI, hpv.lenA Tryz.underlying25]
    generalize k1.new (.row [Value.int .i64 xc, pv] 36 true) = k2 at gI sI hI stI ⊢
    generalize k1.next = I0 at hI ⊢
    refine AW.loopN 41 [11, 12] (fun m a' k => ∃ (q : Nat) (nm : Nat → Nat) (ob : Nat → Option AObj) (M : List Int) (us : Nat → List Int) (uv : List Value), a'.tm 41 = .int .i64 q ∧ q + m = (pinsOf n i).length ∧ nm 0 = M0 ∧ nm 1 = U0 ∧ nm 2 = H0 ∧
        St n.insts.length h1 k nm ob M us uv R [] (.slice none 0 0) ∧ BuildP n i q M us R) (pinsOf n i).length ?_ ?_
    · exact ⟨0, nm, ob, M, us, uv, by simp (disch := first | omega | decide | (simp only [List.length_cons, List.length_nil] <;> omega)) only [push_cast, ↓reduceIte, Nat.reduceLT, Nat.reduceEqDiff, reduceCtorEq, Nat.reduceAdd, if_true, if_false, true_and, and_true], by omega, hm0, hm1, hm2, stI, bp⟩
    clear stI st bp hm0 hm1 hm2 hgk r2 hN4
    clear nm ob M us uv
    rintro b1 mi a3 k3 hki kni kdi kti ⟨q, nm, ob, M, us, uv, h41, hqm, hm0, hm1, hm2, st, bp⟩
    have hg3 := st.own.gr
    have r3 := r1.sub hg3.sub
    have hN5 := hN.sub hg3.sub
    have hpv3 := hpv.sub hg3.sub
    simp (disch := first | omega | decide | (simp only [List.length_cons, List.length_nil] <;> omega)) only [push_cast, ↓reduceIte, Nat.reduceLT, Nat.reduceEqDiff, reduceCtorEq, Nat.reduceAdd, if_true, if_false, true_and, and_true, kni, kdi, kti, kn, kd, kt, hn, hd, ht1, ht5, ht6, h33, h41]
    refine condV_of (fun hlt => ?_) (fun hge => ?_)
    · have hq : q < (pinsOf n i).length := by have := hlt; simp at this; omega
      have hpr := hpin _ (getD_mem hq 0)
      have hMl : i < M.length := by rw [bp.len]; exact hi
      have hMi := bp.lt hi
      have hMb : 0 ≤ M.getD i 0 ∧ M.getD i 0 ≤ 4 := by
        rw [hMi]
        have : ((pinsOf n i).take q).countP (remB n []) ≤ ((pinsOf n i).take q).length := List.countP_le_length
        rw [List.length_take] at this
        omega
      simp (disch := first | omega | decide | (simp only [List.length_cons, List.length_nil] <;> omega)) only [push_cast, ↓reduceIte, Nat.reduceLT, Nat.reduceEqDiff, reduceCtorEq, Nat.reduceAdd, if_true, if_false, true_and, and_true, kni, kdi, kti, kn, kd, kt, hn, hd, ht1, ht5, ht6, h33, h41, hpv3.idxI sl22, hpv3.ldI sl22, faL foN0, faL foN1, faL foN2, faL foN3, faL foN4, hN5.l0, hN5.l1, hN5.l2, hN5.l3, hN5.l4, hN5.la]
      refine ACall.mono ?_ (first r3 hsm)
      rintro _ k3 ⟨rfl, rfl⟩
      simp (disch := first | omega | decide | (simp only [List.length_cons, List.length_nil] <;> omega)) only [push_cast, ↓reduceIte, Nat.reduceLT, Nat.reduceEqDiff, reduceCtorEq, Nat.reduceAdd, if_true, if_false, true_and, and_true, kni, kdi, kti, kn, kd, kt, hn, hd, ht1, ht5, ht6, h33, h41, wrapI]
      generalize hpd : (pinsOf n i).getD q 0 = p at *
      refine condV_of (fun hp => ?_) (fun hp => ?_)
      · obtain ⟨k, hk0⟩ : ∃ k : Nat, p - firstE n = k := ⟨(p - firstE n).toNat, by have := hp; simp at this; omega⟩
        have hkN : k < n.insts.length := by omega
        have hgM : k3.get M0 = some (.row (M.map (.int .i64)) 3 true) := by rw [← hm0]; exact st.own.get 0 _ st.m
        have hst2 := fun b i' (hi' : i' < M.length) => stRow sl22 hgM (one_int .i64) i' b hi'
        have s2 := st.setM w0 (M.set i (M.getD i 0 + 1))
        rw [hm0] at s2
        obtain ⟨rr, k4, nm', ob', happ, hr1, hr2, hgU, e0, e1, e2, s3⟩ := s2.user w0 hkN (i : Int) (by have := bp.ul k hkN; omega)
        rw [hm1] at hgU s3
        have hgU2 : (k3.set M0 (.row ((M.set i (M.getD i 0 + 1)).map (.int .i64)) 3 true)).get U0 = some (.row uv 25 true) := by
          rw [← hm1]; exact s2.own.get 1 _ s2.u
        have hldU := ldL hgU2 rfl flI k (by rw [st.ul]; exact hkN)
        have hstU := stC szI hgU k rr (by rw [st.ul]; exact hkN) hr1 hr2
        simp (disch := first | omega | decide | (simp only [List.length_cons, List.length_nil] <;> omega)) only [push_cast, ↓reduceIte, Nat.reduceLT, Nat.reduceEqDiff, reduceCtorEq, Nat.reduceAdd, if_true, if_false, true_and, and_true, kni, kdi, kti, kn, kd, kt, hn, hd, ht1, ht5, ht6, h33, h41, hk0, idxL sl22, idxL slU, ldRow sl22 0 hgM rfl, hst2, hldU, aBuild1 t22 _ (x := .int .i64 (i : Int)) rfl rfl, happ, hstU, wrapI]
        refine ⟨mi - 1, by omega, (by simp (disch := decide) only [Kp_put, put_none, hki]), q + 1, nm', ob', _, _, _, by simp (disch := first | omega | decide | (simp only [List.length_cons, List.length_nil] <;> omega)) only [push_cast, ↓reduceIte, Nat.reduceLT, Nat.reduceEqDiff, reduceCtorEq, Nat.reduceAdd, if_true, if_false, true_and, and_true], by omega, by rw [e0, hm0], by rw [e1, hm1], by rw [e2, hm2], s3, ?_⟩
        exact bp.pin hi hq hkN (by rw [hpd]; omega)
      · have hlt2 : p < firstE n := by have := hp; simp at this; omega
        simp (disch := first | omega | decide | (simp only [List.length_cons, List.length_nil] <;> omega)) only [push_cast, ↓reduceIte, Nat.reduceLT, Nat.reduceEqDiff, reduceCtorEq, Nat.reduceAdd, if_true, if_false, true_and, and_true, kni, kdi, kti, kn, kd, kt, hn, hd, ht1, ht5, ht6, h33, h41, wrapI]
        exact ⟨mi - 1, by omega, (by simp (disch := decide) only [Kp_put, put_none, hki]), q + 1, nm, ob, M, us, uv, by simp (disch := first | omega | decide | (simp only [List.length_cons, List.length_nil] <;> omega)) only [push_cast, ↓reduceIte, Nat.reduceLT, Nat.reduceEqDiff, reduceCtorEq, Nat.reduceAdd, if_true, if_false, true_and, and_true], by omega, hm0, hm1, hm2, st, bp.skip hq (by rw [hpd]; exact hlt2)⟩
    · have hq : q = (pinsOf n i).length := by have := hge; simp at this; omega
      subst hq
      have hMl : i < M.length := by rw [bp.len]; exact hi
      have hgM : k3.get M0 = some (.row (M.map (.int .i64)) 3 true) := by rw [← hm0]; exact st.own.get 0 _ st.m
      have hRl : R.length ≤ 4294967296 := by
        have := nodup_le (N := n.insts.length) bp.nd (fun x hx => by have := (bp.r x).1 hx; omega)
        omega
      simp (disch := first | omega | decide | (simp only [List.length_cons, List.length_nil] <;> omega)) only [push_cast, ↓reduceIte, Nat.reduceLT, Nat.reduceEqDiff, reduceCtorEq, Nat.reduceAdd, if_true, if_false, true_and, and_true, kni, kdi, kti, kn, kd, kt, hn, hd, ht1, ht5, ht6, h33, idxL sl22, ldRow sl22 0 hgM rfl]
      refine condV_of (fun hz => ?_) (fun hz => ?_)
      · have hz' : M.getD i 0 = 0 := by simpa using hz
        have hpush := st.push w0 hRl (i : Int)
        rw [hm2] at hpush
        simp (disch := first | omega | decide | (simp only [List.length_cons, List.length_nil] <;> omega)) only [push_cast, ↓reduceIte, Nat.reduceLT, Nat.reduceEqDiff, reduceCtorEq, Nat.reduceAdd, if_true, if_false, true_and, and_true, kni, kdi, kti, kn, kd, kt, hn, hd, ht1, ht5, ht6, h33]
        refine ACall.mono ?_ hpush
        rintro _ k4 ⟨nm', ob', R', hperm, e0, e1, e2, s4⟩
        simp (disch := first | omega | decide | (simp only [List.length_cons, List.length_nil] <;> omega)) only [push_cast, ↓reduceIte, Nat.reduceLT, Nat.reduceEqDiff, reduceCtorEq, Nat.reduceAdd, if_true, if_false, true_and, and_true, kni, kdi, kti, kn, kd, kt, hn, hd, ht1, ht5, ht6, h33, wrapI]
        refine ⟨m - 1, by omega, ?_, i + 1, nm', ob', M, us, uv, R', by simp (disch := first | omega | decide | (simp only [List.length_cons, List.length_nil] <;> omega)) only [push_cast, ↓reduceIte, Nat.reduceLT, Nat.reduceEqDiff, reduceCtorEq, Nat.reduceAdd, if_true, if_false, true_and, and_true], by omega, by rw [e0, hm0], by rw [e1, hm1], by rw [e2], s4, bp.next s hi (.inl ⟨hz', hperm⟩)⟩
        simp (disch := decide) only [Kp_put, put_none]
        refine Kp.trans ?_ (⟨kni, kdi, kti⟩ : Kp 41 [11, 12] _ _) (by omega) (by simp)
        exact (by simp (disch := decide) only [Kp_put, put_none, hk])
      · have hz' : M.getD i 0 ≠ 0 := by simpa using hz
        simp (disch := first | omega | decide | (simp only [List.length_cons, List.length_nil] <;> omega)) only [push_cast, ↓reduceIte, Nat.reduceLT, Nat.reduceEqDiff, reduceCtorEq, Nat.reduceAdd, if_true, if_false, true_and, and_true, kni, kdi, kti, kn, kd, kt, hn, hd, ht1, ht5, ht6, h33, wrapI]
        refine ⟨m - 1, by omega, ?_, i + 1, nm, ob, M, us, uv, R, by simp (disch := first | omega | decide | (simp only [List.length_cons, List.length_nil] <;> omega)) only [push_cast, ↓reduceIte, Nat.reduceLT, Nat.reduceEqDiff, reduceCtorEq, Nat.reduceAdd, if_true, if_false, true_and, and_true], by omega, hm0, hm1, hm2, st, bp.next s hi (.inr ⟨hz', rfl⟩)⟩
        simp (disch := decide) only [Kp_put, put_none]
        refine Kp.trans ?_ (⟨kni, kdi, kti⟩ : Kp 41 [11, 12] _ _) (by omega) (by simp)
        exact (by simp (disch := decide) only [Kp_put, put_none, hk])
  · have hi : i = n.insts.length := by have := hge; simp at this; omega
    subst hi
    have hus := fun i j (hi : i < n.insts.length) (hj : j < n.insts.length) => us_count bp hi hj
    have hur := fun k (hk : k < n.insts.length) x (hx : x ∈ us k) => us_range bp hk hx
    have hul := fun k (hk : k < n.insts.length) => bp.ul k hk
    have mp := MainP.start bp
    clear bp h33 him
    simp (disch := first | omega | decide | (simp only [List.length_cons, List.length_nil] <;> omega)) only [push_cast, ↓reduceIte, Nat.reduceLT, Nat.reduceEqDiff, reduceCtorEq, Nat.reduceAdd, if_true, if_false, true_and, and_true, kn, kd, kt, hn, hd, ht1, ht5, ht6]
    refine AW.loopN 34 [8, 9, 10, 11, 12, 13, 14, 15, 16, 33] (fun m a' k => ∃ (nm : Nat → Nat) (ob : Nat → Option AObj) (M R O : List Int) (ov : Value), a'.tm 13 = ov ∧ O.length + m = n.insts.length ∧ nm 0 = M0 ∧ nm 1 = U0 ∧ nm 2 = H0 ∧
        St n.insts.length h1 k nm ob M us uv R O ov ∧ MainP n us O R M []) n.insts.length ?_ ?_
    · exact ⟨nm, ob, M, R, [], _, by simp (disch := first | omega | decide | (simp only [List.length_cons, List.length_nil] <;> omega)) only [push_cast, ↓reduceIte, Nat.reduceLT, Nat.reduceEqDiff, reduceCtorEq, Nat.reduceAdd, if_true, if_false, true_and, and_true], by simp, hm0, hm1, hm2, st, mp⟩
    clear st mp hm0 hm1 hm2 hgk r2 hN4
    clear nm ob M R
    rintro b1 mo a3 k3 hko kno kdo kto ⟨nm, ob, M, R, O, ov', h13, hom, hm0, hm1, hm2, st, mp⟩
    have hg3 := st.own.gr
    have r3 := r1.sub hg3.sub
    have hN5 := hN.sub hg3.sub
    have hORl := nodup_le (N := n.insts.length) mp.nd (fun x hx => by
      have := (mp.r x).1 (List.mem_append.1 hx)
      exact ⟨this.1, this.2.1⟩)
    rw [List.length_append] at hORl
    obtain ⟨rv, hr1, hr2⟩ := st.r
    have hgH2 := st.own.get 2 _ hr1
    rw [hm2] at hgH2
    have hldH := ldL (P := Tryz.prog) hgH2 rfl flH
    simp only [List.length_cons, List.length_nil] at hldH
    have hslR : SlOf k3 rv (R.map (.int .i64)) := hr2.sl (st.own.get 3)
    simp (disch := first | omega | decide | (simp only [List.length_cons, List.length_nil] <;> omega)) only [push_cast, ↓reduceIte, Nat.reduceLT, Nat.reduceEqDiff, reduceCtorEq, Nat.reduceAdd, if_true, if_false, true_and, and_true, kno, kdo, kto, kn, kd, kt, hn, hd, ht1, ht5, ht6, hldH, hslR.lenM Tryz.underlying111]
    refine condV_of (fun hgt => ?_) (fun hle => ?_)
    · have hR0 : 0 < R.length := by have := hgt; simp at this; omega
      have hpop := st.pop w0 (by omega) hR0
      rw [hm2] at hpop
      obtain ⟨hrg, mp2⟩ := mp.pop hR0 (fun i j hi hj => hus i j hi hj)
      simp (disch := first | omega | decide | (simp only [List.length_cons, List.length_nil] <;> omega)) only [push_cast, ↓reduceIte, Nat.reduceLT, Nat.reduceEqDiff, reduceCtorEq, Nat.reduceAdd, if_true, if_false, true_and, and_true, kno, kdo, kto, kn, kd, kt, hn, hd, ht1, ht5, ht6]
      refine ACall.mono ?_ hpop
      rintro _ k4 ⟨rfl, ob4, s4⟩
      generalize R.getD (R.length - 1) 0 = i at *
      generalize R.take (R.length - 1) = R2 at *
      obtain ⟨rr, k5, nm5, ob5, happ, e0, e1, e2, s5⟩ := s4.put w0 i (by omega)
      simp (disch := first | omega | decide | (simp only [List.length_cons, List.length_nil] <;> omega)) only [push_cast, ↓reduceIte, Nat.reduceLT, Nat.reduceEqDiff, reduceCtorEq, Nat.reduceAdd, if_true, if_false, true_and, and_true, kno, kdo, kto, kn, kd, kt, hn, hd, ht1, ht5, ht6, h13, aBuild1 t22 _ (x := .int .i64 i) rfl rfl, happ]
      rw [hm0] at e0
      rw [hm1] at e1
      rw [hm2] at e2
      have hgU5 : k5.get U0 = some (.row uv 25 true) := by rw [← e1]; exact s5.own.get 1 _ s5.u
      have hiN : i.toNat < n.insts.length := by omega
      have hldU := ldL hgU5 rfl flI i.toNat (by rw [s5.ul]; exact hiN)
      have hsu : SlOf k5 (uv.getD i.toNat undef) ((us i.toNat).map (.int .i64)) := (s5.ue _ hiN).sl (s5.own.get _)
      have hull := hul _ hiN
      simp (disch := first | omega | decide | (simp only [List.length_cons, List.length_nil] <;> omega)) only [push_cast, ↓reduceIte, Nat.reduceLT, Nat.reduceEqDiff, reduceCtorEq, Nat.reduceAdd, if_true, if_false, true_and, and_true, kno, kdo, kto, kn, kd, kt, hn, hd, ht1, ht5, ht6, idxL slU, hldU, hsu.lenM Tryz.underlying25]
      refine AW.loopN 89 [16] (fun mi a' k => ∃ (q : Nat) (nm : Nat → Nat) (ob : Nat → Option AObj) (M R : List Int), a'.tm 89 = .int .i64 q ∧ q + mi = (us i.toNat).length ∧ nm 0 = M0 ∧ nm 1 = U0 ∧ nm 2 = H0 ∧
          St n.insts.length h1 k nm ob M us uv R (O ++ [i]) rr ∧ MainP n us (O ++ [i]) R M ((us i.toNat).drop q)) (us i.toNat).length ?_ ?_
      · exact ⟨0, nm5, ob5, M, R2, by simp (disch := first | omega | decide | (simp only [List.length_cons, List.length_nil] <;> omega)) only [push_cast, ↓reduceIte, Nat.reduceLT, Nat.reduceEqDiff, reduceCtorEq, Nat.reduceAdd, if_true, if_false, true_and, and_true], by omega, e0, e1, e2, s5, mp2⟩
      rintro c1 mi a5 k6 hki kni kdi kti ⟨q, nm6, ob6, M6, R6, h89, hqm, f0, f1, f2, s6, mp6⟩
      have hgU6 : k6.get U0 = some (.row uv 25 true) := by rw [← f1]; exact s6.own.get 1 _ s6.u
      have hsu6 : SlOf k6 (uv.getD i.toNat undef) ((us i.toNat).map (.int .i64)) := (s6.ue _ hiN).sl (s6.own.get _)
      simp (disch := first | omega | decide | (simp only [List.length_cons, List.length_nil] <;> omega)) only [push_cast, ↓reduceIte, Nat.reduceLT, Nat.reduceEqDiff, reduceCtorEq, Nat.reduceAdd, if_true, if_false, true_and, and_true, kni, kdi, kti, kno, kdo, kto, kn, kd, kt, hn, hd, ht1, ht5, ht6, h89]
      refine condV_of (fun hlt => ?_) (fun hge => ?_)
      · have hq : q < (us i.toNat).length := by have := hlt; simp at this; omega
        have hdrop : (us i.toNat).drop q = (us i.toNat).getD q 0 :: (us i.toNat).drop (q + 1) := by
          rw [List.drop_eq_getElem_cons hq]
          simp [List.getD_eq_getElem?_getD, hq]
        have hu := hur i.toNat hiN _ (getD_mem hq 0)
        rw [hdrop] at mp6
        generalize hue : (us i.toNat).getD q 0 = u at *
        have hul6 : u.toNat < M6.length := by rw [mp6.len]; omega
        have hgM : k6.get M0 = some (.row (M6.map (.int .i64)) 3 true) := by rw [← f0]; exact s6.own.get 0 _ s6.m
        have hst2 := fun b i' (hi' : i' < M6.length) => stRow sl22 hgM (one_int .i64) i' b hi'
        have s7 := s6.setM w0 (M6.set u.toNat (M6.getD u.toNat 0 - 1))
        rw [f0] at s7
        have hmu := mp6.m u.toNat (by omega)
        have hMu : 0 ≤ M6.getD u.toNat 0 ∧ M6.getD u.toNat 0 ≤ 4294967296 := by
          rw [hmu]
          have h1 : rem n (O ++ [i]) u.toNat ≤ (pinsOf n u.toNat).length := List.countP_le_length
          have h2 := s.pinsOf4 (i := u.toNat) (by omega)
          have h3 : (u :: (us i.toNat).drop (q + 1)).count ((u.toNat : Nat) : Int) ≤ (u :: (us i.toNat).drop (q + 1)).length := List.count_le_length
          rw [List.length_cons, List.length_drop] at h3
          omega
        have hgM7 : (k6.set M0 (.row ((M6.set u.toNat (M6.getD u.toNat 0 - 1)).map (.int .i64)) 3 true)).get M0 = some (.row ((M6.set u.toNat (M6.getD u.toNat 0 - 1)).map (.int .i64)) 3 true) := by rw [AH.set_get, if_pos rfl]
        have hll : u.toNat < (M6.set u.toNat (M6.getD u.toNat 0 - 1)).length := by rw [List.length_set]; exact hul6
        have hld7 := ldRow sl22 0 hgM7 rfl u.toNat hll
        have hgs : (M6.set u.toNat (M6.getD u.toNat 0 - 1)).getD u.toNat 0 = M6.getD u.toNat 0 - 1 := by rw [getD_set hul6, if_pos rfl]
        rw [hgs] at hld7
        simp (disch := first | omega | decide | (simp only [List.length_cons, List.length_nil] <;> omega)) only [push_cast, ↓reduceIte, Nat.reduceLT, Nat.reduceEqDiff, reduceCtorEq, Nat.reduceAdd, if_true, if_false, true_and, and_true, kni, kdi, kti, kno, kdo, kto, kn, kd, kt, hn, hd, ht1, ht5, ht6, h89, hsu6.idxI sl22, hsu6.ldI sl22, hue, idxL sl22, ldRow sl22 0 hgM rfl, hst2, hld7, wrapI]
        refine condV_of (fun hz => ?_) (fun hz => ?_)
        · have hz' : M6.getD u.toNat 0 - 1 = 0 := by simpa using hz
          have hRb : R6.length ≤ 4294967296 := by
            have := nodup_le (N := n.insts.length) mp6.nd (fun x hx => by
              have := (mp6.r x).1 (List.mem_append.1 hx)
              exact ⟨this.1, this.2.1⟩)
            rw [List.length_append] at this
            omega
          have hpush := s7.push w0 hRb u
          rw [f2] at hpush
          simp (disch := first | omega | decide | (simp only [List.length_cons, List.length_nil] <;> omega)) only [push_cast, ↓reduceIte, Nat.reduceLT, Nat.reduceEqDiff, reduceCtorEq, Nat.reduceAdd, if_true, if_false, true_and, and_true, kni, kdi, kti, kno, kdo, kto, kn, kd, kt, hn, hd, ht1, ht5, ht6, h89]
          refine ACall.mono ?_ hpush
          rintro _ k8 ⟨nm8, ob8, R8, hperm, g0, g1', g2, s8⟩
          simp (disch := first | omega | decide | (simp only [List.length_cons, List.length_nil] <;> omega)) only [push_cast, ↓reduceIte, Nat.reduceLT, Nat.reduceEqDiff, reduceCtorEq, Nat.reduceAdd, if_true, if_false, true_and, and_true, kni, kdi, kti, kno, kdo, kto, kn, kd, kt, hn, hd, ht1, ht5, ht6, h89, wrapI]
          exact ⟨mi - 1, by omega, (by simp (disch := decide) only [Kp_put, put_none, hki]), q + 1, nm8, ob8, _, R8, by simp (disch := first | omega | decide | (simp only [List.length_cons, List.length_nil] <;> omega)) only [push_cast, ↓reduceIte, Nat.reduceLT, Nat.reduceEqDiff, reduceCtorEq, Nat.reduceAdd, if_true, if_false, true_and, and_true], by omega, by rw [g0, f0], by rw [g1', f1], by rw [g2], s8, (mp6.dec hu.1 hu.2 (.inl ⟨hz', hperm⟩)).2⟩
        · have hz' : M6.getD u.toNat 0 - 1 ≠ 0 := by simpa using hz
          simp (disch := first | omega | decide | (simp only [List.length_cons, List.length_nil] <;> omega)) only [push_cast, ↓reduceIte, Nat.reduceLT, Nat.reduceEqDiff, reduceCtorEq, Nat.reduceAdd, if_true, if_false, true_and, and_true, kni, kdi, kti, kno, kdo, kto, kn, kd, kt, hn, hd, ht1, ht5, ht6, h89, wrapI]
          exact ⟨mi - 1, by omega, (by simp (disch := decide) only [Kp_put, put_none, hki]), q + 1, nm6, _, _, R6, by simp (disch := first | omega | decide | (simp only [List.length_cons, List.length_nil] <;> omega)) only [push_cast, ↓reduceIte, Nat.reduceLT, Nat.reduceEqDiff, reduceCtorEq, Nat.reduceAdd, if_true, if_false, true_and, and_true], by omega, f0, f1, f2, s7, (mp6.dec hu.1 hu.2 (.inr ⟨hz', rfl⟩)).2⟩
      · have hq : q = (us i.toNat).length := by have := hge; simp at this; omega
        subst hq
        rw [List.drop_length] at mp6
        simp (disch := first | omega | decide | (simp only [List.length_cons, List.length_nil] <;> omega)) only [push_cast, ↓reduceIte, Nat.reduceLT, Nat.reduceEqDiff, reduceCtorEq, Nat.reduceAdd, if_true, if_false, true_and, and_true, kni, kdi, kti, kno, kdo, kto, kn, kd, kt, hn, hd, ht1, ht5, ht6]
        refine ⟨mo - 1, by omega, ?_, nm6, ob6, M6, R6, O ++ [i], rr, by simp (disch := first | omega | decide | (simp only [List.length_cons, List.length_nil] <;> omega)) only [push_cast, ↓reduceIte, Nat.reduceLT, Nat.reduceEqDiff, reduceCtorEq, Nat.reduceAdd, if_true, if_false, true_and, and_true, kni, kdi, kti], by rw [List.length_append]; simp only [List.length_cons, List.length_nil]; omega, f0, f1, f2, s6, mp6⟩
        simp (disch := decide) only [Kp_put, put_none]
        refine Kp.trans ?_ (⟨kni, kdi, kti⟩ : Kp 89 [16] _ _) (by omega) (by simp)
        simp (disch := decide) only [Kp_put, put_none, hko]
    · have hR0 : R = [] := by
        cases R with
        | nil => rfl
        | cons x R => simp at hle
      subst hR0
      have hslO : SlOf k3 ov' (O.map (.int .i64)) := st.o.sl (st.own.get 4)
      have hstuck := mp.stuck
      have htopo := mp.topo
      simp (disch := first | omega | decide | (simp only [List.length_cons, List.length_nil] <;> omega)) only [push_cast, ↓reduceIte, Nat.reduceLT, Nat.reduceEqDiff, reduceCtorEq, Nat.reduceAdd, if_true, if_false, true_and, and_true, kno, kdo, kto, kn, kd, kt, hn, hd, ht1, ht5, ht6, h13, hslO.lenM Tryz.underlying25, faL foN0, faL foN1, faL foN2, faL foN3, faL foN4, hN5.l0, hN5.l1, hN5.l2, hN5.l3, hN5.l4, hN5.la, r3.i.len Tryz.underlying24]
      refine condV_of (fun hl => ?_) (fun hl => ?_)
      · have hlt : O.length < n.insts.length := by have := hl; simp at this; omega
        simp (disch := first | omega | decide | (simp only [List.length_cons, List.length_nil] <;> omega)) only [push_cast, ↓reduceIte, Nat.reduceLT, Nat.reduceEqDiff, reduceCtorEq, Nat.reduceAdd, if_true, if_false, true_and, and_true, kno, kdo, kto, kn, kd, kt, hn, hd, ht1, ht5, ht6, h13]
        exact ⟨g1.trans hg3, .inr ⟨e0', O, htopo, .inl ⟨hlt, hstuck, rfl⟩⟩⟩
      · have heq : O.length = n.insts.length := by have := hl; simp at this; omega
        simp (disch := first | omega | decide | (simp only [List.length_cons, List.length_nil] <;> omega)) only [push_cast, ↓reduceIte, Nat.reduceLT, Nat.reduceEqDiff, reduceCtorEq, Nat.reduceAdd, if_true, if_false, true_and, and_true, kno, kdo, kto, kn, kd, kt, hn, hd, ht1, ht5, ht6, h13]
        exact ⟨g1.trans hg3, .inr ⟨e0', O, htopo, .inr ⟨heq, ov', rfl, hslO⟩⟩⟩


/-! ### Whether a netlist can be put in order, plainly -/

def Full (n : Net) : Prop := ∃ O, Topo n O ∧ O.length = n.insts.length

theorem nodup_all {N : Nat} {l : List Int} (hn : l.Nodup) (hr : ∀ x ∈ l, 0 ≤ x ∧ x < N) (hl : l.length = N) {i : Nat} (hi : i < N) : (i : Int) ∈ l := by
  apply Classical.byContradiction
  intro hx
  have := nodup_le (N := N) (l := (i : Int) :: l) (List.nodup_cons.2 ⟨hx, hn⟩) (fun x h => by
    rcases List.mem_cons.1 h with rfl | h
    · omega
    · exact hr x h)
  simp at this; omega

theorem all_le : ∀ (N : Nat) (l : List Int), (∀ i : Nat, i < N → (i : Int) ∈ l) → N ≤ l.length := by
  intro N
  induction N with
  | zero => intro l _; omega
  | succ N ih =>
    intro l h
    have h1 := h N (by omega)
    have h2 := ih (l.erase (N : Int)) (fun i hi => (List.mem_erase_of_ne (by omega)).2 (h i (by omega)))
    rw [List.length_erase_of_mem h1] at h2
    have := List.length_pos_of_mem h1
    omega

theorem stuck_not_full {n : Net} {O : List Int} (hs : Stuck n O) (ht : Topo n O) (hl : O.length < n.insts.length) : ¬ Full n := by
  rintro ⟨P, tp, lp⟩
  have key : ∀ j : Nat, ∀ x, P[j]? = some x → x ∈ O := by
    intro j
    induction j using Nat.strongRecOn with
    | _ j ih =>
      intro x hx
      apply Classical.byContradiction
      intro hO
      have hr := tp.range x (List.mem_of_getElem? hx)
      obtain ⟨p, hp, hF, hno⟩ := hs x.toNat (by omega) (by rw [Int.toNat_of_nonneg hr.1]; exact hO)
      have hb := tp.before j x hx p hp hF
      obtain ⟨k, hk, e⟩ := List.getElem_of_mem hb
      simp only [List.length_take] at hk
      rw [List.getElem_take] at e
      exact hno (ih k (by omega) _ (by rw [← e, List.getElem?_eq_getElem (by omega)]))
  have hall : ∀ i : Nat, i < n.insts.length → (i : Int) ∈ O := fun i hi => by
    have hm := nodup_all tp.nodup tp.range lp hi
    obtain ⟨k, hk, e⟩ := List.getElem_of_mem hm
    exact key k _ (by rw [List.getElem?_eq_getElem hk, e])
  have := all_le n.insts.length O hall
  omega

open Classical in
noncomputable def netE (n : Net) : Int := if shapeE n ≠ 0 then shapeE n else if Full n then 0 else 14

theorem netE_zero {n : Net} : netE n = 0 ↔ shapeE n = 0 ∧ Full n := by
  unfold netE
  by_cases h : shapeE n = 0
  · by_cases hf : Full n
    · simp [h, hf]
    · simp [h, hf]
  · simp [h]

theorem checkN {h : AH} {n : Net} {cv fv iv ov : Value} (r : NetR h n cv fv iv ov) (ok : NetOK n) :
    ACall Tryz.prog 60 [.agg (netC n cv fv iv ov).toArray] h (fun v h' => v = .int .i64 (netE n) ∧ h' = h) := by
  refine ACall.viewed rfl ?_
  replace r := r.view
  generalize AH.view h = h at r
  refine ACall.wf ⟨_, Tryz.func60, rfl, by kernel_rfl⟩ fun hwf => ?_
  refine ACall.of_wp 11 [.tmp 2] Tryz.func60 rfl (by kernel_rfl) rfl rfl fun a hn hd ha => ?_
  have hbox := boxA 27 h _ r.one
  have hN := NetAt.new (h := h) (n := n) (cv := cv) (fv := fv) (iv := iv) (ov := ov)
  have r1 := r.sub (Sub.new hwf (.row (netC n cv fv iv ov) 27 true))
  simp (disch := first | omega | decide | (simp only [List.length_cons, List.length_nil] <;> omega)) only [push_cast, ↓reduceIte, Nat.reduceLT, Nat.reduceEqDiff, reduceCtorEq, Nat.reduceAdd, if_true, if_false, true_and, and_true, hn, hd, ha, hbox, faL foN0, faL foN1, faL foN2, faL foN3, faL foN4, hN.l0, hN.l1, hN.l2, hN.l3, hN.l4, hN.la]
  refine ACall.mono ?_ (orderN r1 ok)
  rintro _ k ⟨hg, ⟨hs, rfl⟩ | ⟨hs, O, ht, ⟨hl, hst, rfl⟩ | ⟨hl, v, rfl, hv⟩⟩⟩
  · simp (disch := first | omega | decide | (simp only [List.length_cons, List.length_nil] <;> omega)) only [push_cast, ↓reduceIte, Nat.reduceLT, Nat.reduceEqDiff, reduceCtorEq, Nat.reduceAdd, if_true, if_false, true_and, and_true, hn, hd, ha, netE, ne_eq, hs]
  · simp (disch := first | omega | decide | (simp only [List.length_cons, List.length_nil] <;> omega)) only [push_cast, ↓reduceIte, Nat.reduceLT, Nat.reduceEqDiff, reduceCtorEq, Nat.reduceAdd, if_true, if_false, true_and, and_true, hn, hd, ha, netE, ne_eq, hs, stuck_not_full hst ht hl, not_true_eq_false]
  · have hf : Full n := ⟨O, ht, hl⟩
    simp (disch := first | omega | decide | (simp only [List.length_cons, List.length_nil] <;> omega)) only [push_cast, ↓reduceIte, Nat.reduceLT, Nat.reduceEqDiff, reduceCtorEq, Nat.reduceAdd, if_true, if_false, true_and, and_true, hn, hd, ha, netE, ne_eq, hs, hf, not_true_eq_false]

/-! ### netlist.Area -/

def areaStep (n : Net) (s : Int) (x : Inst) : Int := IntKind.i64.wrap (s + (n.cells.getD x.cell.toNat default).area)
def areaE (n : Net) : Int := n.insts.foldl (areaStep n) 0

theorem foldl_drop {α β : Type} {f : β → α → β} {zs : List α} {i : Nat} (hi : i < zs.length) (d : α) (s : β) : (zs.drop i).foldl f s = (zs.drop (i + 1)).foldl f (f s (zs.getD i d)) := by
  rw [List.drop_eq_getElem_cons hi, List.foldl_cons]
  simp only [List.getD_eq_getElem?_getD, List.getElem?_eq_getElem hi, Option.getD_some]

/-! ### netlist.Start -/

open Classical in
noncomputable def startE (n : Net) : List Bool := if netE n = 0 then n.flops.map (fun f => decide (f.init = 1)) else []

theorem startN {h : AH} {n : Net} {cv fv iv ov : Value} (r : NetR h n cv fv iv ov) (ok : NetOK n) :
    ACall Tryz.prog 52 [.agg (netC n cv fv iv ov).toArray] h (fun v h' => Gr h h' ∧ SlOf h' v ((startE n).map .bool)) := by
  refine ACall.wf ⟨_, Tryz.func52, rfl, by kernel_rfl⟩ fun hwf => ?_
  refine ACall.of_wp 24 [.tmp 2] Tryz.func52 rfl (by kernel_rfl) rfl rfl fun a hn hd ha => ?_
  have hbox := boxA 27 h _ r.one
  have hN := NetAt.new (h := h) (n := n) (cv := cv) (fv := fv) (iv := iv) (ov := ov)
  have r1 := r.sub (Sub.new hwf (.row (netC n cv fv iv ov) 27 true))
  have g1 : Gr h (h.new (.row (netC n cv fv iv ov) 27 true)) := (Gr.refl hwf).new _
  simp (disch := first | omega | decide | (simp only [List.length_cons, List.length_nil] <;> omega)) only [push_cast, ↓reduceIte, Nat.reduceLT, Nat.reduceEqDiff, reduceCtorEq, Nat.reduceAdd, if_true, if_false, true_and, and_true, hn, hd, ha, hbox, faL foN0, faL foN1, faL foN2, faL foN3, faL foN4, hN.l0, hN.l1, hN.l2, hN.l3, hN.l4, hN.la]
  generalize h.new (.row (netC n cv fv iv ov) 27 true) = h1 at hN r1 g1 ⊢
  generalize h.next = B at hN ⊢
  refine ACall.mono ?_ (checkN r1 ok)
  rintro _ h1 ⟨rfl, rfl⟩
  simp (disch := first | omega | decide | (simp only [List.length_cons, List.length_nil] <;> omega)) only [push_cast, ↓reduceIte, Nat.reduceLT, Nat.reduceEqDiff, reduceCtorEq, Nat.reduceAdd, if_true, if_false, true_and, and_true, hn, hd, ha]
  refine condV_not (fun e0 => ?_) (fun e0 => ?_)
  · have e : ¬ netE n = 0 := by simpa using e0
    simp (disch := first | omega | decide | (simp only [List.length_cons, List.length_nil] <;> omega)) only [push_cast, ↓reduceIte, Nat.reduceLT, Nat.reduceEqDiff, reduceCtorEq, Nat.reduceAdd, if_true, if_false, true_and, and_true, hn, hd, ha]
    refine ⟨g1, ?_⟩
    rw [startE, if_neg e]; exact ⟨none, 0, 0, rfl, rfl, (fun q e => (nomatch e)), .inl rfl⟩
  have e : netE n = 0 := by simpa using e0
  have s := ShapeOK.of (netE_zero.1 e).1
  have hfl := s.fl
  have w1 := g1.wf
  simp (disch := first | omega | decide | (simp only [List.length_cons, List.length_nil] <;> omega)) only [push_cast, ↓reduceIte, Nat.reduceLT, Nat.reduceEqDiff, reduceCtorEq, Nat.reduceAdd, if_true, if_false, true_and, and_true, hn, hd, ha, faL foN0, faL foN1, faL foN2, faL foN3, faL foN4, hN.l0, hN.l1, hN.l2, hN.l3, hN.l4, hN.la, r1.f.len Tryz.underlying23]
  refine AW.loopN 12 [3, 5] (fun m a' h' => ∃ (i : Nat) (rv : Value) (nm : Nat → Nat) (ob : Nat → Option AObj), a'.tm 12 = .int .i64 i ∧ i + m = n.flops.length ∧ a'.tm 3 = rv ∧ _root_.Go.Ab.Owns h1 h' nm ob ∧ _root_.Go.Ab.Vec 4 rv (ob 0) (nm 0) ((n.flops.take i).map fun f => .bool (decide (f.init = 1)))) n.flops.length ?_ ?_
  · exact ⟨0, _, fun _ => 0, fun _ => none, by simp (disch := first | omega | decide | (simp only [List.length_cons, List.length_nil] <;> omega)) only [push_cast, ↓reduceIte, Nat.reduceLT, Nat.reduceEqDiff, reduceCtorEq, Nat.reduceAdd, if_true, if_false, true_and, and_true], by omega, by simp (disch := first | omega | decide | (simp only [List.length_cons, List.length_nil] <;> omega)) only [push_cast, ↓reduceIte, Nat.reduceLT, Nat.reduceEqDiff, reduceCtorEq, Nat.reduceAdd, if_true, if_false, true_and, and_true], ⟨fun _ _ h => (nomatch h), fun _ _ _ _ h => (nomatch h), fun _ _ h => (nomatch h), Gr.refl w1⟩, .inl ⟨rfl, rfl, rfl⟩⟩
  rintro a1 m a' h' hk kn kd kt ⟨i, rv, nm, ob, h12, him, h3, ho, hv⟩
  simp (disch := first | omega | decide | (simp only [List.length_cons, List.length_nil] <;> omega)) only [push_cast, ↓reduceIte, Nat.reduceLT, Nat.reduceEqDiff, reduceCtorEq, Nat.reduceAdd, if_true, if_false, true_and, and_true, kn, kd, kt, hn, hd, ha, h12, h3]
  refine condV_of (fun hlt => ?_) (fun hge => ?_)
  · have hi : i < n.flops.length := by have := hlt; simp at this; omega
    have hg := ho.gr
    obtain ⟨cs, hcs, hld, -, -⟩ := r1.f.get hi default
    have hcs : cs = _ := hcs
    subst hcs
    replace hld := aLoad_sub hg.sub (hld _ agF)
    have htake : n.flops.take (i + 1) = n.flops.take i ++ [n.flops.getD i default] := take_succ_getD hi default
    generalize n.flops.getD i default = x at *
    have hst := fun (hh : AH) cs e hl => stN agF hh cs e [Value.int .i64 x.next, .int .u8 x.init] hl rfl rfl
    have gI := (Gr.refl hg.wf).new (.row [Value.int .i64 x.next, .int .u8 x.init] 65 true)
    have hI := CsAt.new h' [Value.int .i64 x.next, .int .u8 x.init] 65 true
    have o2 := ho.grown gI
    simp (disch := first | omega | decide | (simp only [List.length_cons, List.length_nil] <;> omega)) only [push_cast, ↓reduceIte, Nat.reduceLT, Nat.reduceEqDiff, reduceCtorEq, Nat.reduceAdd, if_true, if_false, true_and, and_true, kn, kd, kt, hn, hd, ha, h12, h3, r1.f.idx Tryz.underlying23 infF, hld, alL zrF, hst]
    generalize h'.new (.row [Value.int .i64 x.next, .int .u8 x.init] 65 true) = h2 at gI hI o2 ⊢
    generalize h'.next = I0 at hI ⊢
    have g3 := (Gr.refl gI.wf).new (.row [.bool (decide (x.init = 1))] 4 true)
    have hB : (h2.new (.row [.bool (decide (x.init = 1))] 4 true)).get h2.next = some (.row [.bool (decide (x.init = 1))] 4 true) := by rw [AH.new_get, if_pos rfl]
    have o3 := o2.grown g3
    obtain ⟨r', h4, happ, hup⟩ := appendV (t := 43) (t2 := 43) t23 ⟨_, Tryz.underlying43⟩ g3.wf hv (o3.get 0) hB rfl rfl (by simp; omega) (by simp; omega)
    obtain ⟨A', o', hv', ho'⟩ := o3.vec w1 hup
    simp (disch := first | omega | decide | (simp only [List.length_cons, List.length_nil] <;> omega)) only [push_cast, ↓reduceIte, Nat.reduceLT, Nat.reduceEqDiff, reduceCtorEq, Nat.reduceAdd, if_true, if_false, true_and, and_true, kn, kd, kt, hn, hd, ha, h12, h3, faL foF0, faL foF1, hI.ld fl5, aBuild1 t23 h2 (x := .bool (decide (x.init = 1))) rfl rfl, happ, wrapI]
    refine ⟨m - 1, by omega, (by simp (disch := decide) only [Kp_put, put_none, hk]), i + 1, r', _, _, by simp (disch := first | omega | decide | (simp only [List.length_cons, List.length_nil] <;> omega)) only [push_cast, ↓reduceIte, Nat.reduceLT, Nat.reduceEqDiff, reduceCtorEq, Nat.reduceAdd, if_true, if_false, true_and, and_true], by omega, by simp (disch := first | omega | decide | (simp only [List.length_cons, List.length_nil] <;> omega)) only [push_cast, ↓reduceIte, Nat.reduceLT, Nat.reduceEqDiff, reduceCtorEq, Nat.reduceAdd, if_true, if_false, true_and, and_true], ho', ?_⟩
    rw [htake, upd_same, upd_same]; simpa using hv'
  · have hi : i = n.flops.length := by have := hge; simp at this; omega
    subst hi
    rw [List.take_length] at hv
    simp (disch := first | omega | decide | (simp only [List.length_cons, List.length_nil] <;> omega)) only [push_cast, ↓reduceIte, Nat.reduceLT, Nat.reduceEqDiff, reduceCtorEq, Nat.reduceAdd, if_true, if_false, true_and, and_true, kn, kd, kt, hn, hd, ha, h12, h3]
    refine ⟨g1.trans ho.gr, ?_⟩
    rw [startE, if_pos e, List.map_map]
    exact hv.sl (ho.get 0)

/-! ### scan.check -/

noncomputable def scanE (n : Net) (zs : List Int) : Int := if netE n ≠ 0 then netE n else if IsPerm zs ∧ (zs.length : Int) = n.flops.length then 0 else 1

theorem scanCheck {h : AH} {n : Net} {cv fv iv ov v : Value} {zs : List Int} (r : NetR h n cv fv iv ov) (ok : NetOK n) (hv : SlOf h v (zs.map (.int .i64))) (hb : zs.length ≤ 17592186043904) :
    ACall Tryz.prog 33 [.agg (netC n cv fv iv ov).toArray, v] h (fun v h' => v = .int .i64 (scanE n zs) ∧ h' = h) := by
  refine ACall.viewed rfl ?_
  replace r := r.view
  replace hv := hv.view
  generalize AH.view h = h at r hv
  refine ACall.wf ⟨_, Tryz.func33, rfl, by kernel_rfl⟩ fun hwf => ?_
  refine ACall.of_wp 17 [.tmp 4] Tryz.func33 rfl (by kernel_rfl) rfl rfl fun a hn hd ha => ?_
  have hbox := boxA 27 h _ r.one
  have hN := NetAt.new (h := h) (n := n) (cv := cv) (fv := fv) (iv := iv) (ov := ov)
  have s1 := Sub.new hwf (.row (netC n cv fv iv ov) 27 true)
  have r1 := r.sub s1
  have hv1 := hv.sub s1
  simp (disch := first | omega | decide | (simp only [List.length_cons, List.length_nil] <;> omega)) only [push_cast, ↓reduceIte, Nat.reduceLT, Nat.reduceEqDiff, reduceCtorEq, Nat.reduceAdd, if_true, if_false, true_and, and_true, hn, hd, ha, hbox, faL foN0, faL foN1, faL foN2, faL foN3, faL foN4, hN.l0, hN.l1, hN.l2, hN.l3, hN.l4, hN.la]
  generalize h.new (.row (netC n cv fv iv ov) 27 true) = h1 at hN r1 hv1 ⊢
  generalize h.next = B at hN ⊢
  refine ACall.mono ?_ (checkN r1 ok)
  rintro _ h1 ⟨rfl, rfl⟩
  simp (disch := first | omega | decide | (simp only [List.length_cons, List.length_nil] <;> omega)) only [push_cast, ↓reduceIte, Nat.reduceLT, Nat.reduceEqDiff, reduceCtorEq, Nat.reduceAdd, if_true, if_false, true_and, and_true, hn, hd, ha]
  refine condV_not (fun e0 => ?_) (fun e0 => ?_)
  · have e : ¬ netE n = 0 := by simpa using e0
    simp (disch := first | omega | decide | (simp only [List.length_cons, List.length_nil] <;> omega)) only [push_cast, ↓reduceIte, Nat.reduceLT, Nat.reduceEqDiff, reduceCtorEq, Nat.reduceAdd, if_true, if_false, true_and, and_true, hn, hd, ha, scanE, ne_eq, e]
  have e : netE n = 0 := by simpa using e0
  simp (disch := first | omega | decide | (simp only [List.length_cons, List.length_nil] <;> omega)) only [push_cast, ↓reduceIte, Nat.reduceLT, Nat.reduceEqDiff, reduceCtorEq, Nat.reduceAdd, if_true, if_false, true_and, and_true, hn, hd, ha, faL foN0, faL foN1, faL foN2, faL foN3, faL foN4, hN.l0, hN.l1, hN.l2, hN.l3, hN.l4, hN.la, r1.f.len Tryz.underlying23]
  refine ACall.mono ?_ (permutation hv1 hb)
  rintro _ k ⟨rfl, hsub⟩
  by_cases hp : IsPerm zs ∧ (zs.length : Int) = n.flops.length
  · simp (disch := first | omega | decide | (simp only [List.length_cons, List.length_nil] <;> omega)) only [push_cast, ↓reduceIte, Nat.reduceLT, Nat.reduceEqDiff, reduceCtorEq, Nat.reduceAdd, if_true, if_false, true_and, and_true, hn, hd, ha, scanE, ne_eq, e, hp, not_true_eq_false, and_self]
  · simp (disch := first | omega | decide | (simp only [List.length_cons, List.length_nil] <;> omega)) only [push_cast, ↓reduceIte, Nat.reduceLT, Nat.reduceEqDiff, reduceCtorEq, Nat.reduceAdd, if_true, if_false, true_and, and_true, hn, hd, ha, scanE, ne_eq, e, hp, not_true_eq_false, and_self]


def andE (k : IntKind) (a b : Int) : Int := k.wrap (BitVec.ofInt k.bits a &&& BitVec.ofInt k.bits b).toNat
def orE (k : IntKind) (a b : Int) : Int := k.wrap (BitVec.ofInt k.bits a ||| BitVec.ofInt k.bits b).toNat
def evalE (t i : Int) : Bool := decide (i ≥ 0) && (andE .u64 (t.fdiv (2 ^ min (min i 64).toNat IntKind.u64.bits)) 1 == 1)

theorem eval {h : AH} {t i : Int} : ACall Tryz.prog 98 [.int .u64 t, .int .i64 i] h (fun r h' => r = .bool (evalE t i) ∧ h' = h) := by
  refine ACall.of_wp 15 [.tmp 4] Tryz.func98 rfl (by kernel_rfl) rfl rfl fun a hn hd ha => ?_
  simp (disch := first | omega | decide | (simp only [List.length_cons, List.length_nil] <;> omega)) only [push_cast, ↓reduceIte, Nat.reduceLT, Nat.reduceEqDiff, reduceCtorEq, Nat.reduceAdd, if_true, if_false, true_and, and_true, hn, hd, ha]
  refine wantM_of (fun e => ?_) (fun e => ?_)
  · have e' : i ≥ 0 := by simpa using e
    simp (disch := first | omega | decide | (simp only [List.length_cons, List.length_nil] <;> omega)) only [push_cast, ↓reduceIte, Nat.reduceLT, Nat.reduceEqDiff, reduceCtorEq, Nat.reduceAdd, if_true, if_false, true_and, and_true, hn, hd, ha, e, aFold, aMin2R, shrR, evalE, andE, e']
  · simp (disch := first | omega | decide | (simp only [List.length_cons, List.length_nil] <;> omega)) only [push_cast, ↓reduceIte, Nat.reduceLT, Nat.reduceEqDiff, reduceCtorEq, Nat.reduceAdd, if_true, if_false, true_and, and_true, hn, hd, ha, e, evalE, Bool.false_and]

/-! ### table.permutation -/

def bitE (s v : Int) : Int := andE .i64 (s.fdiv (2 ^ min v.toNat IntKind.i64.bits)) 1
def shlE (k : IntKind) (v : Int) : Int := k.wrap (1 * 2 ^ min v.toNat k.bits)
theorem shl1 (k : IntKind) (v : Int) (hv : 0 ≤ v) : shBin .shl k 1 v = some (.int k (shlE k v)) := by rw [shlR _ _ _ hv]; rfl
def setE (s v : Int) : Int := orE .i64 s (shlE .i64 v)
def permGo (n : Int) : Int → List Int → Bool
  | _, [] => true
  | s, v :: vs => if ((decide (v < 0) || decide (v ≥ n)) || (bitE s v == 1)) = true then false else permGo n (setE s v) vs
def permE (zs : List Int) (n : Int) : Bool := permGo n 0 zs && ((zs.length : Int) == n)

theorem permGo_range {n : Int} : ∀ {zs : List Int} {s : Int}, permGo n s zs = true → ∀ z ∈ zs, 0 ≤ z ∧ z < n := by
  intro zs
  induction zs with
  | nil => intro s _ z hz; simp at hz
  | cons v vs ih =>
    intro s h z hz
    simp only [permGo] at h
    split at h
    · cases h
    · rename_i hc
      simp only [Bool.or_eq_true, decide_eq_true_eq, not_or] at hc
      rcases List.mem_cons.1 hz with rfl | hz
      · omega
      · exact ih h z hz

theorem drop_cons_getD {α : Type} {l : List α} {i : Nat} (hi : i < l.length) (d : α) : l.drop i = l.getD i d :: l.drop (i + 1) := by
  rw [List.drop_eq_getElem_cons hi, List.getD_eq_getElem?_getD, List.getElem?_eq_getElem hi]; rfl

theorem perm {h : AH} {v : Value} {zs : List Int} {n : Int} (hv : SlOf h v (zs.map (.int .i64))) (hb : zs.length ≤ 4294967296) :
    ACall Tryz.prog 88 [v, .int .i64 n] h (fun r h' => r = .bool (permE zs n) ∧ h' = h) := by
  refine ACall.of_wp 37 [.tmp 4] Tryz.func88 rfl (by kernel_rfl) rfl rfl fun a hn hd ha => ?_
  simp (disch := first | omega | decide | (simp only [List.length_cons, List.length_nil] <;> omega)) only [push_cast, ↓reduceIte, Nat.reduceLT, Nat.reduceEqDiff, reduceCtorEq, Nat.reduceAdd, if_true, if_false, true_and, and_true, hn, hd, ha, hv.lenM Tryz.underlying25]
  refine AW.loopN 10 [4, 5, 7] (fun m a' h' => h' = h ∧ ∃ (i : Nat) (s : Int), a'.tm 10 = .int .i64 i ∧ i + m = zs.length ∧ a'.tm 5 = .int .i64 s ∧ permGo n s (zs.drop i) = permGo n 0 zs) zs.length ?_ ?_
  · exact ⟨rfl, 0, 0, by simp (disch := first | omega | decide | (simp only [List.length_cons, List.length_nil] <;> omega)) only [push_cast, ↓reduceIte, Nat.reduceLT, Nat.reduceEqDiff, reduceCtorEq, Nat.reduceAdd, if_true, if_false, true_and, and_true], by omega, by simp (disch := first | omega | decide | (simp only [List.length_cons, List.length_nil] <;> omega)) only [push_cast, ↓reduceIte, Nat.reduceLT, Nat.reduceEqDiff, reduceCtorEq, Nat.reduceAdd, if_true, if_false, true_and, and_true], rfl⟩
  rintro a1 m a' h' hk kn kd kt ⟨rfl, i, s, h10, him, h5, hgo⟩
  simp (disch := first | omega | decide | (simp only [List.length_cons, List.length_nil] <;> omega)) only [push_cast, ↓reduceIte, Nat.reduceLT, Nat.reduceEqDiff, reduceCtorEq, Nat.reduceAdd, if_true, if_false, true_and, and_true, kn, kd, kt, hn, hd, ha, h10, h5]
  refine condV_of (fun hlt => ?_) (fun hge => ?_)
  · have hi : i < zs.length := by have := hlt; simp at this; omega
    rw [drop_cons_getD hi 0, permGo] at hgo
    simp (disch := first | omega | decide | (simp only [List.length_cons, List.length_nil] <;> omega)) only [push_cast, ↓reduceIte, Nat.reduceLT, Nat.reduceEqDiff, reduceCtorEq, Nat.reduceAdd, if_true, if_false, true_and, and_true, kn, kd, kt, hn, hd, ha, h10, h5, hv.idxI sl22, hv.ldI sl22]
    generalize zs.getD i 0 = z at *
    refine wantM_not (fun e1 => ?_) (fun e1 => ?_)
    · simp (disch := first | omega | decide | (simp only [List.length_cons, List.length_nil] <;> omega)) only [push_cast, ↓reduceIte, Nat.reduceLT, Nat.reduceEqDiff, reduceCtorEq, Nat.reduceAdd, if_true, if_false, true_and, and_true, kn, kd, kt, hn, hd, ha, h10, h5, e1]
      simp only [e1, Bool.true_or, if_true] at hgo
      simp only [permE, ← hgo, Bool.false_and, and_self]
    simp (disch := first | omega | decide | (simp only [List.length_cons, List.length_nil] <;> omega)) only [push_cast, ↓reduceIte, Nat.reduceLT, Nat.reduceEqDiff, reduceCtorEq, Nat.reduceAdd, if_true, if_false, true_and, and_true, kn, kd, kt, hn, hd, ha, h10, h5, e1]
    refine wantM_not (fun e2 => ?_) (fun e2 => ?_)
    · simp (disch := first | omega | decide | (simp only [List.length_cons, List.length_nil] <;> omega)) only [push_cast, ↓reduceIte, Nat.reduceLT, Nat.reduceEqDiff, reduceCtorEq, Nat.reduceAdd, if_true, if_false, true_and, and_true, kn, kd, kt, hn, hd, ha, h10, h5, e1, e2]
      simp only [e1, e2, Bool.true_or, Bool.or_true, if_true] at hgo
      simp only [permE, ← hgo, Bool.false_and, and_self]
    have hz0 : 0 ≤ z := by simpa using e1
    simp (disch := first | omega | decide | (simp only [List.length_cons, List.length_nil] <;> omega)) only [push_cast, ↓reduceIte, Nat.reduceLT, Nat.reduceEqDiff, reduceCtorEq, Nat.reduceAdd, if_true, if_false, true_and, and_true, kn, kd, kt, hn, hd, ha, h10, h5, e1, e2, shrR]
    refine condV_of (fun e3 => ?_) (fun e3 => ?_)
    · have e3' : (bitE s z == 1) = true := by simp only [bitE, andE, ieq]; exact e3
      simp (disch := first | omega | decide | (simp only [List.length_cons, List.length_nil] <;> omega)) only [push_cast, ↓reduceIte, Nat.reduceLT, Nat.reduceEqDiff, reduceCtorEq, Nat.reduceAdd, if_true, if_false, true_and, and_true, kn, kd, kt, hn, hd, ha, h10, h5]
      simp only [e1, e2, e3', Bool.true_or, Bool.or_true, if_true] at hgo
      simp only [permE, ← hgo, Bool.false_and, and_self]
    · have e3' : (bitE s z == 1) = false := by simp only [bitE, andE, ieq]; exact e3
      simp only [e1, e2, e3', Bool.or_false, Bool.false_eq_true, if_false] at hgo
      clear e3 e3'
      have hw : IntKind.i64.wrap ((i : Int) + 1) = i + 1 := wrapI (by omega) (by omega)
      simp only [setE] at hgo
      simp (disch := first | omega | decide | (simp only [List.length_cons, List.length_nil] <;> omega)) only [push_cast, ↓reduceIte, Nat.reduceLT, Nat.reduceEqDiff, reduceCtorEq, Nat.reduceAdd, if_true, if_false, true_and, and_true, kn, kd, kt, hn, hd, ha, h10, h5, hw]
      rw [shl1 _ _ hz0]
      generalize shlE .i64 z = y at hgo ⊢
      simp (disch := first | omega | decide | (simp only [List.length_cons, List.length_nil] <;> omega)) only [push_cast, ↓reduceIte, Nat.reduceLT, Nat.reduceEqDiff, reduceCtorEq, Nat.reduceAdd, if_true, if_false, true_and, and_true, kn, kd, kt, hn, hd, ha, h10, h5, hw]
      exact ⟨m - 1, by omega, (by simp (disch := decide) only [Kp_put, put_none, hk]), rfl, i + 1, orE .i64 s y, by simp (disch := first | omega | decide | (simp only [List.length_cons, List.length_nil] <;> omega)) only [push_cast, ↓reduceIte, Nat.reduceLT, Nat.reduceEqDiff, reduceCtorEq, Nat.reduceAdd, if_true, if_false, true_and, and_true], by omega, by simp (disch := first | omega | decide | (simp only [List.length_cons, List.length_nil] <;> omega)) only [push_cast, ↓reduceIte, Nat.reduceLT, Nat.reduceEqDiff, reduceCtorEq, Nat.reduceAdd, if_true, if_false, true_and, and_true, orE], hgo⟩
  · have hi : i = zs.length := by have := hge; simp at this; omega
    subst hi
    rw [List.drop_length, permGo] at hgo
    simp (disch := first | omega | decide | (simp only [List.length_cons, List.length_nil] <;> omega)) only [push_cast, ↓reduceIte, Nat.reduceLT, Nat.reduceEqDiff, reduceCtorEq, Nat.reduceAdd, if_true, if_false, true_and, and_true, kn, kd, kt, hn, hd, ha, h10, h5, hv.lenM Tryz.underlying25, permE, ← hgo]

/-! ### table.permute -/

def idxGo (row : Int) : Int → Nat → List Int → Int
  | acc, _, [] => acc
  | acc, j, v :: vs => idxGo row (orE .i64 acc (IntKind.i64.wrap (bitE row v * 2 ^ min j IntKind.i64.bits))) (j + 1) vs
def rowsGo (t : Int) (zs : List Int) : Int → Nat → Nat → Int
  | acc, _, 0 => acc
  | acc, r, c + 1 => rowsGo t zs (if evalE t (idxGo r 0 0 zs) = true then orE .u64 acc (shlE .u64 r) else acc) (r + 1) c
def permuteE (t n : Int) (zs : List Int) : Int := rowsGo t zs 0 0 (2 ^ n.toNat)

theorem permute {h : AH} {v : Value} {t n : Int} {zs : List Int} (hv : SlOf h v (zs.map (.int .i64))) (hb : zs.length ≤ 4294967296) (h0 : 0 ≤ n) (h1 : n ≤ 6) (hz : ∀ z ∈ zs, 0 ≤ z) :
    ACall Tryz.prog 89 [.int .u64 t, .int .i64 n, v] h (fun r h' => r = .int .u64 (permuteE t n zs) ∧ h' = h) := by
  refine ACall.of_wp 42 [.tmp 6] Tryz.func89 rfl (by kernel_rfl) rfl rfl fun a hn hd ha => ?_
  obtain ⟨N, hN, hN64, hpow⟩ : ∃ N : Nat, shlE .i64 n = N ∧ N ≤ 64 ∧ 2 ^ n.toNat = N := by
    refine ⟨2 ^ n.toNat, ?_, ?_, rfl⟩
    · have : n = 0 ∨ n = 1 ∨ n = 2 ∨ n = 3 ∨ n = 4 ∨ n = 5 ∨ n = 6 := by omega
      rcases this with rfl | rfl | rfl | rfl | rfl | rfl | rfl <;> rfl
    · exact Nat.le_trans (Nat.pow_le_pow_right (by omega) (show n.toNat ≤ 6 by omega)) (by decide)
  have hE : permuteE t n zs = rowsGo t zs 0 0 N := by rw [permuteE, hpow]
  rw [hE]
  simp (disch := first | omega | decide | (simp only [List.length_cons, List.length_nil] <;> omega)) only [push_cast, ↓reduceIte, Nat.reduceLT, Nat.reduceEqDiff, reduceCtorEq, Nat.reduceAdd, if_true, if_false, true_and, and_true, hn, hd, ha, shl1, hN]
  refine AW.loopN 14 [7, 8, 9, 10, 11, 17, 18, 19] (fun m a' h' => h' = h ∧ ∃ (i : Nat) (s : Int), a'.tm 14 = .int .i64 i ∧ i + m = N ∧ a'.tm 7 = .int .u64 s ∧ rowsGo t zs s i (N - i) = rowsGo t zs 0 0 N) N ?_ ?_
  · exact ⟨rfl, 0, 0, by simp (disch := first | omega | decide | (simp only [List.length_cons, List.length_nil] <;> omega)) only [push_cast, ↓reduceIte, Nat.reduceLT, Nat.reduceEqDiff, reduceCtorEq, Nat.reduceAdd, if_true, if_false, true_and, and_true], by omega, by simp (disch := first | omega | decide | (simp only [List.length_cons, List.length_nil] <;> omega)) only [push_cast, ↓reduceIte, Nat.reduceLT, Nat.reduceEqDiff, reduceCtorEq, Nat.reduceAdd, if_true, if_false, true_and, and_true], rfl⟩
  rintro a1 m a' h' hk kn kd kt ⟨rfl, i, s, h14, him, h7, hgo⟩
  simp (disch := first | omega | decide | (simp only [List.length_cons, List.length_nil] <;> omega)) only [push_cast, ↓reduceIte, Nat.reduceLT, Nat.reduceEqDiff, reduceCtorEq, Nat.reduceAdd, if_true, if_false, true_and, and_true, kn, kd, kt, hn, hd, ha, h14, h7]
  refine condV_of (fun hlt => ?_) (fun hge => ?_)
  · have hi : i < N := by have := hlt; simp at this; omega
    have hsub : N - i = (N - (i + 1)) + 1 := by omega
    rw [hsub, rowsGo] at hgo
    simp (disch := first | omega | decide | (simp only [List.length_cons, List.length_nil] <;> omega)) only [push_cast, ↓reduceIte, Nat.reduceLT, Nat.reduceEqDiff, reduceCtorEq, Nat.reduceAdd, if_true, if_false, true_and, and_true, kn, kd, kt, hn, hd, ha, h14, h7, hv.lenM Tryz.underlying25]
    refine AW.loopN 19 [9, 10, 11] (fun m a' k => k = h' ∧ ∃ (j : Nat) (s : Int), a'.tm 19 = .int .i64 j ∧ j + m = zs.length ∧ a'.tm 9 = .int .i64 s ∧ idxGo i s j (zs.drop j) = idxGo i 0 0 zs) zs.length ?_ ?_
    · exact ⟨rfl, 0, 0, by simp (disch := first | omega | decide | (simp only [List.length_cons, List.length_nil] <;> omega)) only [push_cast, ↓reduceIte, Nat.reduceLT, Nat.reduceEqDiff, reduceCtorEq, Nat.reduceAdd, if_true, if_false, true_and, and_true], by omega, by simp (disch := first | omega | decide | (simp only [List.length_cons, List.length_nil] <;> omega)) only [push_cast, ↓reduceIte, Nat.reduceLT, Nat.reduceEqDiff, reduceCtorEq, Nat.reduceAdd, if_true, if_false, true_and, and_true], rfl⟩
    rintro c1 mi a5 k6 hki kni kdi kti ⟨rfl, j, w, h19, hjm, h9, hjo⟩
    simp (disch := first | omega | decide | (simp only [List.length_cons, List.length_nil] <;> omega)) only [push_cast, ↓reduceIte, Nat.reduceLT, Nat.reduceEqDiff, reduceCtorEq, Nat.reduceAdd, if_true, if_false, true_and, and_true, kni, kdi, kti, kn, kd, kt, hn, hd, ha, h14, h7, h19, h9]
    refine condV_of (fun hlt => ?_) (fun hge => ?_)
    · have hj : j < zs.length := by have := hlt; simp at this; omega
      have hzj := hz _ (getD_mem hj 0)
      rw [drop_cons_getD hj 0, idxGo] at hjo
      simp (disch := first | omega | decide | (simp only [List.length_cons, List.length_nil] <;> omega)) only [push_cast, ↓reduceIte, Nat.reduceLT, Nat.reduceEqDiff, reduceCtorEq, Nat.reduceAdd, if_true, if_false, true_and, and_true, kni, kdi, kti, kn, kd, kt, hn, hd, ha, h14, h7, h19, h9, hv.idxI sl22, hv.ldI sl22]
      generalize zs.getD j 0 = z at *
      have hw : IntKind.i64.wrap ((j : Int) + 1) = j + 1 := wrapI (by omega) (by omega)
      simp (disch := first | omega | decide | (simp only [List.length_cons, List.length_nil] <;> omega)) only [push_cast, ↓reduceIte, Nat.reduceLT, Nat.reduceEqDiff, reduceCtorEq, Nat.reduceAdd, if_true, if_false, true_and, and_true, kni, kdi, kti, kn, kd, kt, hn, hd, ha, h14, h7, h19, h9, shrR, shlR, hw]
      exact ⟨mi - 1, by omega, (by simp (disch := decide) only [Kp_put, put_none, hki]), rfl, j + 1, _, by simp (disch := first | omega | decide | (simp only [List.length_cons, List.length_nil] <;> omega)) only [push_cast, ↓reduceIte, Nat.reduceLT, Nat.reduceEqDiff, reduceCtorEq, Nat.reduceAdd, if_true, if_false, true_and, and_true], by omega, by simp (disch := first | omega | decide | (simp only [List.length_cons, List.length_nil] <;> omega)) only [push_cast, ↓reduceIte, Nat.reduceLT, Nat.reduceEqDiff, reduceCtorEq, Nat.reduceAdd, if_true, if_false, true_and, and_true, bitE, andE, orE], hjo⟩
    · have hj : j = zs.length := by have := hge; simp at this; omega
      subst hj
      rw [List.drop_length, idxGo] at hjo
      rw [← hjo] at hgo
      simp (disch := first | omega | decide | (simp only [List.length_cons, List.length_nil] <;> omega)) only [push_cast, ↓reduceIte, Nat.reduceLT, Nat.reduceEqDiff, reduceCtorEq, Nat.reduceAdd, if_true, if_false, true_and, and_true, kni, kdi, kti, kn, kd, kt, hn, hd, ha, h14, h7, h19, h9]
      refine ACall.mono ?_ eval
      rintro _ _ ⟨rfl, rfl⟩
      simp (disch := first | omega | decide | (simp only [List.length_cons, List.length_nil] <;> omega)) only [push_cast, ↓reduceIte, Nat.reduceLT, Nat.reduceEqDiff, reduceCtorEq, Nat.reduceAdd, if_true, if_false, true_and, and_true, kni, kdi, kti, kn, kd, kt, hn, hd, ha, h14, h7, h19, h9]
      refine condV_of (fun e3 => ?_) (fun e3 => ?_)
      · rw [if_pos e3] at hgo
        have hw : IntKind.i64.wrap ((i : Int) + 1) = i + 1 := wrapI (by omega) (by omega)
        simp (disch := first | omega | decide | (simp only [List.length_cons, List.length_nil] <;> omega)) only [push_cast, ↓reduceIte, Nat.reduceLT, Nat.reduceEqDiff, reduceCtorEq, Nat.reduceAdd, if_true, if_false, true_and, and_true, kni, kdi, kti, kn, kd, kt, hn, hd, ha, h14, h7, h19, h9, shl1, hw]
        refine ⟨m - 1, by omega, ?_, rfl, i + 1, _, by simp (disch := first | omega | decide | (simp only [List.length_cons, List.length_nil] <;> omega)) only [push_cast, ↓reduceIte, Nat.reduceLT, Nat.reduceEqDiff, reduceCtorEq, Nat.reduceAdd, if_true, if_false, true_and, and_true], by omega, by simp (disch := first | omega | decide | (simp only [List.length_cons, List.length_nil] <;> omega)) only [push_cast, ↓reduceIte, Nat.reduceLT, Nat.reduceEqDiff, reduceCtorEq, Nat.reduceAdd, if_true, if_false, true_and, and_true, orE, shlE], hgo⟩
        simp (disch := decide) only [Kp_put, put_none]
        refine Kp.trans ?_ (⟨kni, kdi, kti⟩ : Kp 19 [9, 10, 11] _ _) (by omega) (by simp)
        exact (by simp (disch := decide) only [Kp_put, put_none, hk])
      · rw [e3, if_neg (by decide)] at hgo
        simp (disch := first | omega | decide | (simp only [List.length_cons, List.length_nil] <;> omega)) only [push_cast, ↓reduceIte, Nat.reduceLT, Nat.reduceEqDiff, reduceCtorEq, Nat.reduceAdd, if_true, if_false, true_and, and_true, kni, kdi, kti, kn, kd, kt, hn, hd, ha, h14, h7, h19, h9, wrapI]
        refine ⟨m - 1, by omega, ?_, rfl, i + 1, _, by simp (disch := first | omega | decide | (simp only [List.length_cons, List.length_nil] <;> omega)) only [push_cast, ↓reduceIte, Nat.reduceLT, Nat.reduceEqDiff, reduceCtorEq, Nat.reduceAdd, if_true, if_false, true_and, and_true], by omega, by simp (disch := first | omega | decide | (simp only [List.length_cons, List.length_nil] <;> omega)) only [push_cast, ↓reduceIte, Nat.reduceLT, Nat.reduceEqDiff, reduceCtorEq, Nat.reduceAdd, if_true, if_false, true_and, and_true, kti, h7], hgo⟩
        simp (disch := decide) only [Kp_put, put_none]
        refine Kp.trans ?_ (⟨kni, kdi, kti⟩ : Kp 19 [9, 10, 11] _ _) (by omega) (by simp)
        exact (by simp (disch := decide) only [Kp_put, put_none, hk])
  · have hi : i = N := by have := hge; simp at this; omega
    subst hi
    rw [Nat.sub_self, rowsGo] at hgo
    simp (disch := first | omega | decide | (simp only [List.length_cons, List.length_nil] <;> omega)) only [push_cast, ↓reduceIte, Nat.reduceLT, Nat.reduceEqDiff, reduceCtorEq, Nat.reduceAdd, if_true, if_false, true_and, and_true, kn, kd, kt, hn, hd, ha, h14, h7, ← hgo]

theorem permuteN {h : AH} {v : Value} {t n : Int} {zs : List Int} (hv : SlOf h v (zs.map (.int .i64))) (hb : zs.length ≤ 4294967296) (h0 : 0 ≤ t) (h1 : t < 18446744073709551616) :
    ACall Tryz.prog 64 [.int .u64 t, .int .i64 n, v] h (fun r h' => r = (if validE t n = true ∧ permE zs n = true then .tuple #[.int .u64 (permuteE t n zs), .int .i64 0] else .tuple #[.int .u64 0, .int .i64 1]) ∧ h' = h) := by
  refine ACall.of_wp 22 [.tmp 6, .tmp 7] Tryz.func64 rfl (by kernel_rfl) rfl rfl fun a hn hd ha => ?_
  simp (disch := first | omega | decide | (simp only [List.length_cons, List.length_nil] <;> omega)) only [push_cast, ↓reduceIte, Nat.reduceLT, Nat.reduceEqDiff, reduceCtorEq, Nat.reduceAdd, if_true, if_false, true_and, and_true, hn, hd, ha]
  refine ACall.mono ?_ (valid h0 h1)
  rintro _ _ ⟨rfl, rfl⟩
  simp (disch := first | omega | decide | (simp only [List.length_cons, List.length_nil] <;> omega)) only [push_cast, ↓reduceIte, Nat.reduceLT, Nat.reduceEqDiff, reduceCtorEq, Nat.reduceAdd, if_true, if_false, true_and, and_true, hn, hd, ha]
  cases e1 : validE t n with
  | false => simp (disch := first | omega | decide | (simp only [List.length_cons, List.length_nil] <;> omega)) only [push_cast, ↓reduceIte, Nat.reduceLT, Nat.reduceEqDiff, reduceCtorEq, Nat.reduceAdd, if_true, if_false, true_and, and_true, hn, hd, ha, false_and]
  | true =>
    simp (disch := first | omega | decide | (simp only [List.length_cons, List.length_nil] <;> omega)) only [push_cast, ↓reduceIte, Nat.reduceLT, Nat.reduceEqDiff, reduceCtorEq, Nat.reduceAdd, if_true, if_false, true_and, and_true, hn, hd, ha]
    refine ACall.mono ?_ (perm hv hb)
    rintro _ _ ⟨rfl, rfl⟩
    cases e2 : permE zs n with
    | false => simp (disch := first | omega | decide | (simp only [List.length_cons, List.length_nil] <;> omega)) only [push_cast, ↓reduceIte, Nat.reduceLT, Nat.reduceEqDiff, reduceCtorEq, Nat.reduceAdd, if_true, if_false, true_and, and_true, hn, hd, ha, and_false]
    | true =>
      have hr : ∀ z ∈ zs, 0 ≤ z ∧ z < n := permGo_range (by simp only [permE, Bool.and_eq_true] at e2; exact e2.1)
      have hl : n = lim n := by simp only [validE, Bool.and_eq_true, decide_eq_true_eq] at e1; exact e1.1
      have hn6 : 0 ≤ n ∧ n ≤ 6 := by have := lim_range n; omega
      simp (disch := first | omega | decide | (simp only [List.length_cons, List.length_nil] <;> omega)) only [push_cast, ↓reduceIte, Nat.reduceLT, Nat.reduceEqDiff, reduceCtorEq, Nat.reduceAdd, if_true, if_false, true_and, and_true, hn, hd, ha]
      refine ACall.mono ?_ (permute hv hb hn6.1 hn6.2 (fun z hz => (hr z hz).1))
      rintro _ _ ⟨rfl, rfl⟩
      simp (disch := first | omega | decide | (simp only [List.length_cons, List.length_nil] <;> omega)) only [push_cast, ↓reduceIte, Nat.reduceLT, Nat.reduceEqDiff, reduceCtorEq, Nat.reduceAdd, if_true, if_false, true_and, and_true, hn, hd, ha, and_self]


theorem smF : SlM Tryz.prog 23 65 2 16 := ⟨Tryz.underlying23, ⟨(Tryz.prog.info? 65).get (by kernel_rfl), .agg #[.int .i64 0, .int .u8 0], by kernel_rfl, by kernel_rfl, by kernel_rfl, by kernel_rfl, rfl, rfl, rfl⟩, by decide⟩
theorem smN : SlM Tryz.prog 24 36 2 32 := ⟨Tryz.underlying24, ⟨(Tryz.prog.info? 36).get (by kernel_rfl), .agg #[.int .i64 0, .slice none 0 0], by kernel_rfl, by kernel_rfl, by kernel_rfl, by kernel_rfl, rfl, rfl, rfl⟩, by decide⟩
theorem smC : SlM Tryz.prog 22 40 5 64 := ⟨Tryz.underlying22, ⟨(Tryz.prog.info? 40).get (by kernel_rfl), .agg #[.string ByteArray.empty, .int .i64 0, .int .u64 0, .int .i64 0, .slice none 0 0], by kernel_rfl, by kernel_rfl, by kernel_rfl, by kernel_rfl, rfl, rfl, rfl⟩, by decide⟩
theorem tL : SlT Tryz.prog 38 2 8 (.int .i64 0) := ⟨Tryz.underlying38, ⟨(Tryz.prog.info? 2).get (by kernel_rfl), by kernel_rfl, by kernel_rfl, by kernel_rfl, by kernel_rfl⟩, ⟨_, Tryz.underlying2, rfl⟩, rfl, rfl, rfl⟩

def flopC (x : Flop) : List Value := [.int .i64 x.next, .int .u8 x.init]

/-- A slice of one's own that holds these flops. -/
def FlopsV (h : AH) (v : Value) (ob : Option AObj) (A : Nat) (xs : List Flop) : Prop :=
  ∃ zs, VecM 2 65 v ob A xs.length zs ∧ (∀ o, ob = some o → h.get A = some o) ∧ ∀ (i : Nat) (x : Flop), xs[i]? = some x → (zs.drop (i * 2)).take 2 = flopC x

theorem cloneF {h : AH} {v : Value} {xs : List Flop} (hv : RowOf flopL h v xs) (hb : xs.length ≤ 4294967296) :
    ACall Tryz.prog 37 [v] h (fun r h' => Gr h h' ∧ ∃ ob A, FlopsV h' r ob A xs ∧ (∀ o, ob = some o → h.next ≤ A)) := by
  refine ACall.wf ⟨_, Tryz.func37, rfl, by kernel_rfl⟩ fun hwf => ?_
  refine ACall.of_wp 8 [.tmp 2] Tryz.func37 rfl (by kernel_rfl) rfl rfl fun a hn hd ha => ?_
  obtain ⟨p, l, c, rfl, hl, hsp, hcs⟩ := id hv
  simp (disch := first | omega | decide | (simp only [List.length_cons, List.length_nil] <;> omega)) only [push_cast, ↓reduceIte, Nat.reduceLT, Nat.reduceEqDiff, reduceCtorEq, Nat.reduceAdd, if_true, if_false, true_and, and_true, hn, hd, ha, eqBin_nil Tryz.underlying23]
  cases p with
  | none =>
    have hz : xs = [] := by
      rcases hcs with e | ⟨A, off, o, cs, e, _⟩
      · exact e
      · cases e
    subst hz
    simp (disch := first | omega | decide | (simp only [List.length_cons, List.length_nil] <;> omega)) only [push_cast, ↓reduceIte, Nat.reduceLT, Nat.reduceEqDiff, reduceCtorEq, Nat.reduceAdd, if_true, if_false, true_and, and_true, Option.isNone_none, hn, hd]
    exact ⟨Gr.refl hwf, none, 0, ⟨[], ⟨rfl, .inl ⟨rfl, rfl, rfl⟩⟩, fun o e => (nomatch e), fun i x e => by simp at e⟩, fun o e => (nomatch e)⟩
  | some q =>
    have g1 := (Gr.refl hwf).new (.row [] 65 true)
    have he : aBuildSlice Tryz.prog 23 0 [] h = some (.slice (some ⟨h.next, 0, none⟩) 0 0, h.new (.row [] 65 true)) := by
      obtain ⟨i, z, hi, h1, hb, hz, hc, hzk, hp⟩ := smF.info
      simp only [aBuildSlice, smF.sl, hi, hz, h1, hp, hc, fillL, zeros]
      simp [SL]
    simp (disch := first | omega | decide | (simp only [List.length_cons, List.length_nil] <;> omega)) only [push_cast, ↓reduceIte, Nat.reduceLT, Nat.reduceEqDiff, reduceCtorEq, Nat.reduceAdd, if_true, if_false, true_and, and_true, Option.isNone_some, hn, hd, ha, he]
    obtain ⟨ys, hsrc, hyl, hyr⟩ := (hv.sub g1.sub).src
    have hg1 : (h.new (.row [] 65 true)).get h.next = some (.row [] 65 true) := by rw [AH.new_get, if_pos rfl]
    by_cases hz : xs = []
    · subst hz
      have happ : aAppend Tryz.prog #[23, 23] (.slice (some ⟨h.next, 0, none⟩) 0 0) (.slice (some q) l c) (h.new (.row [] 65 true)) = some (.slice (some ⟨h.next, 0, none⟩) 0 0, h.new (.row [] 65 true)) := by
        obtain ⟨i, z, hi, h1, hbb, hzz, hc, hzk, _⟩ := smF.info
        have hsrc' : srcCells 2 (.slice (some q) l c) (h.new (.row [] 65 true)) = some (0, ys) := hsrc
        simp [aAppend, smF.sl, hi, hzz, h1, hc, isIntT, hsrc', hzk]
      simp (disch := first | omega | decide | (simp only [List.length_cons, List.length_nil] <;> omega)) only [push_cast, ↓reduceIte, Nat.reduceLT, Nat.reduceEqDiff, reduceCtorEq, Nat.reduceAdd, if_true, if_false, true_and, and_true, hn, hd, ha, happ]
      exact ⟨g1, _, h.next, ⟨[], ⟨rfl, .inr (.inl ⟨rfl, rfl, rfl⟩)⟩, fun o e => by cases e; exact hg1, fun i x e => by simp at e⟩, fun o e => Nat.le_refl _⟩
    · have hk : xs.length ≠ 0 := fun e => hz (List.eq_nil_of_length_eq_zero e)
      obtain ⟨r, h2, happ, ⟨A', o', hv', hA', hlo⟩, frx, w2, n2⟩ := appendM (t := 23) (t2 := 23) smF ⟨_, Tryz.underlying23⟩ g1.wf (v := .slice (some ⟨h.next, 0, none⟩) 0 0) (ob := some (.row [] 65 true)) (A := h.next) (n := 0) (zs := [])
        ⟨rfl, .inr (.inl ⟨rfl, rfl, rfl⟩)⟩ (fun o e => by cases e; exact hg1) hsrc hk hyl (by omega) (by omega)
      simp (disch := first | omega | decide | (simp only [List.length_cons, List.length_nil] <;> omega)) only [push_cast, ↓reduceIte, Nat.reduceLT, Nat.reduceEqDiff, reduceCtorEq, Nat.reduceAdd, if_true, if_false, true_and, and_true, hn, hd, ha, happ]
      rw [Nat.zero_add, List.nil_append] at hv'
      refine ⟨⟨w2, fun C o hC => frx C o (g1.sub C o hC) (fun e => by subst e; rw [hwf _ (Nat.le_refl _)] at hC; cases hC), Nat.le_trans g1.nx n2⟩, some o', A', ⟨ys, hv', fun o e => by cases e; exact hA', fun i x hx => hyr i x hx⟩, fun o e => Nat.le_trans g1.nx hlo⟩

theorem cloneL {h : AH} {v : Value} {zs : List Int} (hv : SlOf h v (zs.map (.int .i64))) (hb : zs.length ≤ 4294967296) :
    ACall Tryz.prog 38 [v] h (fun r h' => Gr h h' ∧ SlOf h' r (zs.map (.int .i64)) ∧ ∀ C off l c, r = .slice (some ⟨C, off, none⟩) l c → h.next ≤ C) := by
  refine ACall.wf ⟨_, Tryz.func38, rfl, by kernel_rfl⟩ fun hwf => ?_
  refine ACall.of_wp 8 [.tmp 2] Tryz.func38 rfl (by kernel_rfl) rfl rfl fun a hn hd ha => ?_
  have hsrc := hv.src
  obtain ⟨p, l, c, rfl, hl, hsp, _⟩ := id hv
  simp (disch := first | omega | decide | (simp only [List.length_cons, List.length_nil] <;> omega)) only [push_cast, ↓reduceIte, Nat.reduceLT, Nat.reduceEqDiff, reduceCtorEq, Nat.reduceAdd, if_true, if_false, true_and, and_true, hn, hd, ha, eqBin_nil Tryz.underlying38]
  cases p with
  | none =>
    have hz : zs = [] := by
      rcases hv with ⟨p', l', c', e, hl', _, hcs⟩
      cases e
      rcases hcs with e | ⟨A, off, o, cs, e, _⟩
      · simpa using e
      · cases e
    subst hz
    simp (disch := first | omega | decide | (simp only [List.length_cons, List.length_nil] <;> omega)) only [push_cast, ↓reduceIte, Nat.reduceLT, Nat.reduceEqDiff, reduceCtorEq, Nat.reduceAdd, if_true, if_false, true_and, and_true, Option.isNone_none, hn, hd]
    exact ⟨Gr.refl hwf, ⟨none, 0, 0, rfl, rfl, (fun q e => (nomatch e)), .inl rfl⟩, fun C off l c e => by cases e⟩
  | some q =>
    simp (disch := first | omega | decide | (simp only [List.length_cons, List.length_nil] <;> omega)) only [push_cast, ↓reduceIte, Nat.reduceLT, Nat.reduceEqDiff, reduceCtorEq, Nat.reduceAdd, if_true, if_false, true_and, and_true, Option.isNone_some, hn, hd, ha, aBuildSlice_empty tL]
    have g1 := (Gr.refl hwf).new (.row [] 2 true)
    by_cases hz : zs = []
    · subst hz
      rw [List.map_nil] at hsrc
      have hs1 : srcCells 1 (.slice (some q) l c) (h.new (.row [] 2 true)) = some (0, []) := by
        have hl0 : l = 0 := by simpa using hl
        subst hl0
        obtain ⟨B, o, sp⟩ := q
        have : sp = none := hsp _ rfl
        subst this; rfl
      simp (disch := first | omega | decide | (simp only [List.length_cons, List.length_nil] <;> omega)) only [push_cast, ↓reduceIte, Nat.reduceLT, Nat.reduceEqDiff, reduceCtorEq, Nat.reduceAdd, if_true, if_false, true_and, and_true, aAppend_none tL hs1, hn, hd, ha]
      exact ⟨g1, ⟨_, 0, 0, rfl, rfl, fun q e => by cases e; rfl, .inl rfl⟩, fun C off l c e => by cases e; exact Nat.le_refl _⟩
    · have hv' := hv.sub g1.sub
      have hs1 := hv'.src
      have hz' : zs.map (Value.int .i64) ≠ [] := by simpa using hz
      have hg : (h.new (.row [] 2 true)).get h.next = some (.row [] 2 true) := by simp [AH.new_get]
      have happ := aAppend_first tL hg hs1 hz' (by simp; omega) (by simp [ML]; omega)
      simp (disch := first | omega | decide | (simp only [List.length_cons, List.length_nil] <;> omega)) only [push_cast, ↓reduceIte, Nat.reduceLT, Nat.reduceEqDiff, reduceCtorEq, Nat.reduceAdd, if_true, if_false, true_and, and_true, happ, hn, hd, ha]
      refine ⟨g1.new _, ⟨_, _, _, rfl, by simp, fun q e => by cases e; rfl, .inr ⟨h.next + 1, 0, _, _, rfl, by rw [AH.new_get, if_pos (by simp)], rfl, fun i x hx => by rw [Nat.zero_add]; exact hx⟩⟩, fun C off l c e => by cases e; simp⟩


/-- A slice of one's own that holds these numbers. -/
def IntsV (h : AH) (v : Value) (ob : Option AObj) (A : Nat) (zs : List Int) : Prop :=
  _root_.Go.Ab.Vec 3 v ob A (zs.map (.int .i64)) ∧ ∀ o, ob = some o → h.get A = some o

theorem IntsV.sl {h : AH} {v : Value} {ob : Option AObj} {A : Nat} {zs : List Int} (hv : IntsV h v ob A zs) : SlOf h v (zs.map (.int .i64)) := hv.1.sl hv.2

theorem cloneI {h : AH} {v : Value} {zs : List Int} (hv : SlOf h v (zs.map (.int .i64))) (hb : zs.length ≤ 4294967296) :
    ACall Tryz.prog 36 [v] h (fun r h' => Gr h h' ∧ ∃ ob A, IntsV h' r ob A zs ∧ (∀ o, ob = some o → h.next ≤ A)) := by
  refine ACall.wf ⟨_, Tryz.func36, rfl, by kernel_rfl⟩ fun hwf => ?_
  refine ACall.of_wp 8 [.tmp 2] Tryz.func36 rfl (by kernel_rfl) rfl rfl fun a hn hd ha => ?_
  have hsrc := hv.src
  obtain ⟨p, l, c, rfl, hl, hsp, _⟩ := id hv
  simp (disch := first | omega | decide | (simp only [List.length_cons, List.length_nil] <;> omega)) only [push_cast, ↓reduceIte, Nat.reduceLT, Nat.reduceEqDiff, reduceCtorEq, Nat.reduceAdd, if_true, if_false, true_and, and_true, hn, hd, ha, eqBin_nil Tryz.underlying25]
  cases p with
  | none =>
    have hz : zs = [] := by
      rcases hv with ⟨p', l', c', e, hl', _, hcs⟩
      cases e
      rcases hcs with e | ⟨A, off, o, cs, e, _⟩
      · simpa using e
      · cases e
    subst hz
    simp (disch := first | omega | decide | (simp only [List.length_cons, List.length_nil] <;> omega)) only [push_cast, ↓reduceIte, Nat.reduceLT, Nat.reduceEqDiff, reduceCtorEq, Nat.reduceAdd, if_true, if_false, true_and, and_true, Option.isNone_none, hn, hd]
    exact ⟨Gr.refl hwf, none, 0, ⟨.inl ⟨rfl, rfl, rfl⟩, fun o e => (nomatch e)⟩, fun o e => (nomatch e)⟩
  | some q =>
    simp (disch := first | omega | decide | (simp only [List.length_cons, List.length_nil] <;> omega)) only [push_cast, ↓reduceIte, Nat.reduceLT, Nat.reduceEqDiff, reduceCtorEq, Nat.reduceAdd, if_true, if_false, true_and, and_true, Option.isNone_some, hn, hd, ha, aBuildSlice_empty t22]
    have g1 := (Gr.refl hwf).new (.row [] 3 true)
    by_cases hz : zs = []
    · subst hz
      rw [List.map_nil] at hsrc
      have hs1 : srcCells 1 (.slice (some q) l c) (h.new (.row [] 3 true)) = some (0, []) := by
        have hl0 : l = 0 := by simpa using hl
        subst hl0
        obtain ⟨B, o, sp⟩ := q
        have : sp = none := hsp _ rfl
        subst this; rfl
      simp (disch := first | omega | decide | (simp only [List.length_cons, List.length_nil] <;> omega)) only [push_cast, ↓reduceIte, Nat.reduceLT, Nat.reduceEqDiff, reduceCtorEq, Nat.reduceAdd, if_true, if_false, true_and, and_true, aAppend_none t22 hs1, hn, hd, ha]
      exact ⟨g1, _, h.next, ⟨.inr (.inr ⟨[], 0, rfl, by omega, Nat.le_refl _, Nat.le_refl _, rfl, rfl⟩), fun o e => by cases e; rw [AH.new_get, if_pos rfl]⟩, fun o e => Nat.le_refl _⟩
    · have hv' := hv.sub g1.sub
      have hs1 := hv'.src
      have hz' : zs.map (Value.int .i64) ≠ [] := by simpa using hz
      have hg : (h.new (.row [] 3 true)).get h.next = some (.row [] 3 true) := by simp [AH.new_get]
      have happ := aAppend_first t22 hg hs1 hz' (by simp; omega) (by simp [ML]; omega)
      simp (disch := first | omega | decide | (simp only [List.length_cons, List.length_nil] <;> omega)) only [push_cast, ↓reduceIte, Nat.reduceLT, Nat.reduceEqDiff, reduceCtorEq, Nat.reduceAdd, if_true, if_false, true_and, and_true, happ, hn, hd, ha]
      exact ⟨g1.new _, _, h.next + 1, ⟨.inr (.inl ⟨zs.map (.int .i64), by simp, rfl, Nat.le_refl _, List.take_length⟩), fun o e => by cases e; rw [AH.new_get, if_pos (by simp)]⟩, fun o e => by omega⟩

/-! ### scan.Insert's shift -/

def shiftE (n : Net) (x : Int) : Int := if x ≥ n.inputs then IntKind.i64.wrap (x + 2) else x

theorem shift {h : AH} {B : Nat} {n : Net} {cv fv iv ov v : Value} {zs : List Int} (hN : NetAt h B n cv fv iv ov) (hv : SlOf h v (zs.map (.int .i64))) (hb : zs.length ≤ 4294967296) :
    ACall Tryz.prog 35 [v, .pointer (some ⟨B, 0, none⟩)] h (fun r h' => Gr h h' ∧ ∃ ob A, IntsV h' r ob A (zs.map (shiftE n)) ∧ (∀ o, ob = some o → h.next ≤ A)) := by
  refine ACall.wf ⟨_, Tryz.func35, rfl, by kernel_rfl⟩ fun hwf => ?_
  refine ACall.of_wp 27 [.tmp 3] Tryz.func35 rfl (by kernel_rfl) rfl rfl fun a hn hd ha => ?_
  simp (disch := first | omega | decide | (simp only [List.length_cons, List.length_nil] <;> omega)) only [push_cast, ↓reduceIte, Nat.reduceLT, Nat.reduceEqDiff, reduceCtorEq, Nat.reduceAdd, if_true, if_false, true_and, and_true, hn, hd, ha]
  refine ACall.mono ?_ (cloneI hv hb)
  rintro r k ⟨hg, ob, A, hr, hlo⟩
  simp (disch := first | omega | decide | (simp only [List.length_cons, List.length_nil] <;> omega)) only [push_cast, ↓reduceIte, Nat.reduceLT, Nat.reduceEqDiff, reduceCtorEq, Nat.reduceAdd, if_true, if_false, true_and, and_true, hn, hd, ha, hr.sl.lenM Tryz.underlying25]
  refine AW.loopN 11 [3, 5, 6] (fun m a' h' => Gr h h' ∧ ∃ (i : Nat) (ob : Option AObj), a'.tm 11 = .int .i64 i ∧ i + m = zs.length ∧ IntsV h' r ob A ((zs.take i).map (shiftE n) ++ zs.drop i) ∧ (∀ o, ob = some o → h.next ≤ A)) zs.length ?_ ?_
  · exact ⟨hg, 0, ob, by simp (disch := first | omega | decide | (simp only [List.length_cons, List.length_nil] <;> omega)) only [push_cast, ↓reduceIte, Nat.reduceLT, Nat.reduceEqDiff, reduceCtorEq, Nat.reduceAdd, if_true, if_false, true_and, and_true], by omega, by simpa using hr, hlo⟩
  clear hr hlo ob hg
  rintro a1 m a' h' hk kn kd kt ⟨hg, i, ob, h11, him, hr, hlo⟩
  have hlen : ((zs.take i).map (shiftE n) ++ zs.drop i).length = zs.length := by simp; omega
  simp (disch := first | omega | decide | (simp only [List.length_cons, List.length_nil] <;> omega)) only [push_cast, ↓reduceIte, Nat.reduceLT, Nat.reduceEqDiff, reduceCtorEq, Nat.reduceAdd, if_true, if_false, true_and, and_true, kn, kd, kt, hn, hd, ha, h11]
  refine condV_of (fun hlt => ?_) (fun hge => ?_)
  · have hi : i < zs.length := by have := hlt; simp at this; omega
    have hget : ((zs.take i).map (shiftE n) ++ zs.drop i).getD i 0 = zs.getD i 0 := by
      rw [List.getD_eq_getElem?_getD, List.getElem?_append_right (by simp; omega), List.getD_eq_getElem?_getD]
      simp [Nat.min_eq_left (Nat.le_of_lt hi)]
    have htake : zs.take (i + 1) = zs.take i ++ [zs.getD i 0] := take_succ_getD hi 0
    have hdrop := drop_cons_getD hi (0 : Int)
    have hidx := hr.sl.idxI sl22 .i64 i (by omega) (by omega)
    have hld := hr.sl.ldI sl22 i (by omega)
    rw [Int.toNat_natCast] at hidx
    rw [hget] at hld
    have hN2 := hN.sub hg.sub
    have hw : IntKind.i64.wrap ((i : Int) + 1) = i + 1 := wrapI (by omega) (by omega)
    have hset : ((zs.take i).map (shiftE n) ++ zs.drop i).set i (shiftE n (zs.getD i 0)) = (zs.take (i + 1)).map (shiftE n) ++ zs.drop (i + 1) := by
      rw [htake, hdrop, List.set_append_right _ _ (by simp; omega), List.map_append, List.append_assoc]
      simp [Nat.min_eq_left (Nat.le_of_lt hi)]
    generalize zs.getD i 0 = z at *
    simp (disch := first | omega | decide | (simp only [List.length_cons, List.length_nil] <;> omega)) only [push_cast, ↓reduceIte, Nat.reduceLT, Nat.reduceEqDiff, reduceCtorEq, Nat.reduceAdd, if_true, if_false, true_and, and_true, kn, kd, kt, hn, hd, ha, h11, hidx, hld, faL foN0, faL foN1, faL foN2, faL foN3, faL foN4, hN2.l0, hN2.l1, hN2.l2, hN2.l3, hN2.l4, hN2.la]
    refine condV_of (fun hz => ?_) (fun hz => ?_)
    · have hz' : z ≥ n.inputs := by simpa using hz
      obtain ⟨o', hst, hv', hob⟩ := _root_.Go.Ab.Vec.store (P := Tryz.prog) hr.1 hr.2 (i := i) ⟨_, (info3).choose_spec.1, info3.choose_spec.2.1⟩ (by simp; omega) (x := .int .i64 (IntKind.i64.wrap (z + 2))) rfl rfl
      have hAlo : h.next ≤ A := by
        cases ho : ob with
        | none => exact absurd ho hob
        | some o => exact hlo o ho
      have hAlt : A < h'.next := by
        cases ho : ob with
        | none => exact absurd ho hob
        | some o => exact AH.get_lt hg.wf (hr.2 o ho)
      simp (disch := first | omega | decide | (simp only [List.length_cons, List.length_nil] <;> omega)) only [push_cast, ↓reduceIte, Nat.reduceLT, Nat.reduceEqDiff, reduceCtorEq, Nat.reduceAdd, if_true, if_false, true_and, and_true, kn, kd, kt, hn, hd, ha, h11, hidx, hst, hw]
      refine ⟨m - 1, by omega, (by simp (disch := decide) only [Kp_put, put_none, hk]), hg.set hwf hAlo hAlt o', i + 1, some o', by simp (disch := first | omega | decide | (simp only [List.length_cons, List.length_nil] <;> omega)) only [push_cast, ↓reduceIte, Nat.reduceLT, Nat.reduceEqDiff, reduceCtorEq, Nat.reduceAdd, if_true, if_false, true_and, and_true], by omega, ⟨?_, fun o e => by cases e; simp [AH.set_get]⟩, fun _ _ => hAlo⟩
      rw [← hset, List.map_set, shiftE, if_pos hz']; exact hv'
    · have hz' : ¬ z ≥ n.inputs := by simpa using hz
      simp (disch := first | omega | decide | (simp only [List.length_cons, List.length_nil] <;> omega)) only [push_cast, ↓reduceIte, Nat.reduceLT, Nat.reduceEqDiff, reduceCtorEq, Nat.reduceAdd, if_true, if_false, true_and, and_true, kn, kd, kt, hn, hd, ha, h11, hw]
      refine ⟨m - 1, by omega, (by simp (disch := decide) only [Kp_put, put_none, hk]), hg, i + 1, ob, by simp (disch := first | omega | decide | (simp only [List.length_cons, List.length_nil] <;> omega)) only [push_cast, ↓reduceIte, Nat.reduceLT, Nat.reduceEqDiff, reduceCtorEq, Nat.reduceAdd, if_true, if_false, true_and, and_true], by omega, ?_, hlo⟩
      rw [← hset, shiftE, if_neg hz']
      have : ((zs.take i).map (shiftE n) ++ zs.drop i).set i z = (zs.take i).map (shiftE n) ++ zs.drop i := by
        rw [hdrop, List.set_append_right _ _ (by simp; omega)]
        simp [Nat.min_eq_left (Nat.le_of_lt hi)]
      rw [this]; exact hr
  · have hi : i = zs.length := by have := hge; simp at this; omega
    subst hi
    simp (disch := first | omega | decide | (simp only [List.length_cons, List.length_nil] <;> omega)) only [push_cast, ↓reduceIte, Nat.reduceLT, Nat.reduceEqDiff, reduceCtorEq, Nat.reduceAdd, if_true, if_false, true_and, and_true, kn, kd, kt, hn, hd, ha, h11]
    refine ⟨hg, ob, A, ?_, hlo⟩
    simpa using hr

end Go.Ab.S1
