/- netlabref29.Nets, net and shape. netlabref29.order and Check. Own layer 'Ab': a row's arguments that hold slices of structs, as the abstract heap holds them. A netlist, as an argument of a row: brought onto the abstract heap. The scanned netlist is valid; its area; its start: plainly. -/
import Derived.Test.YtnejoceplinjpaaGreatB11
import Derived.ChangeArms
import Derived.DataReads
set_option linter.unusedSimpArgs false
set_option linter.unusedVariables false
namespace Go.Ab.S1
open Go.Proofs
set_option linter.unusedSimpArgs false
set_option linter.unusedVariables false
set_option maxRecDepth 100000
set_option maxHeartbeats 4000000
attribute [local push_cast] wpA_skip wpA_ret wpA_exit wpA_seq wpA_block wpA_cond2 andK_true wpA_region wpA_draw wpA_loop thenQ_normal thenQ_ret thenQ_exit blockQ_normal blockQ_ret blockQ_exit condV_true condV_false opsM_nil opsM_cons2 okM_true wantM_true wantM_false stepM seqM_cons2 seqM_nil2 okS_true wantS_true wantS_false stepS skipS okB Keeps_nil contK_app List.zip_cons_cons List.zip_nil_left List.zip_nil_right Op.operands Call.operands Array.toList_append List.append_nil List.nil_append List.all_cons List.all_nil cOK plain put_n put_tm put_none put_df ev_tmp ev_const ev_func wanted_none wanted_some callR_func dop ex_some1 aBuiltin aBin intBin aUn Option.map_some Bool.and_true Bool.true_and Bool.and_self List.map_cons List.map_nil List.toList_toArray List.getElem?_toArray List.getElem?_cons_zero List.getElem?_cons_succ Option.getD_some Option.getD_none Bool.false_eq_true eq_self_iff_true decide_true decide_false List.cons_append aExtract resL resV List.getD_cons_zero List.getD_cons_succ List.getD_nil Nat.succ_ne_self g1 g2 yieldedA2 isB_bool isB_undef g3 Option.bind_some Option.bind_none bne_self_eq_false beq_self_eq_true Bool.not_true Bool.not_false Int.toNat_natCast List.length_map List.mem_cons List.not_mem_nil or_false not_false_eq_true decide_not Bool.not_not bodyR_ret2 bodyR_normal2 closeMarks_nil ex_some0 Nat.zero_add Nat.add_zero ieq ine List.map_toArray Option.toArray_none Option.toArray_some oev Keeps_cons Still_eq selL wpX_skip wpX_ret wpX_exit wpX_seq wpX_block wpX_cond wpX_region wpX_draw wpX_loop List.take_succ_cons List.take_zero List.drop_succ_cons List.drop_zero Int.zero_add Int.add_zero aNil

theorem nets29 {h : AH} {n : Net} {cv fv iv ov : Value} (r : NetR h n cv fv iv ov) (hs : Small n) :
    ACall Tryz.prog 32 [.agg (netC n cv fv iv ov).toArray] h (fun v h' => v = .int .i64 (firstE n + n.insts.length) ∧ h' = h) := by
  have h0 := hs.i0; have h1 := hs.i1; have h2 := hs.f; have h3 := hs.i
  refine ACall.viewed rfl ?_
  replace r := r.view
  generalize AH.view h = h at r
  refine ACall.wf ⟨_, Tryz.func32, rfl, by kernel_rfl⟩ fun hwf => ?_
  refine ACall.of_wp 13 [.tmp 2] Tryz.func32 rfl (by kernel_rfl) rfl rfl fun a hn hd ha => ?_
  have hbox := boxA 27 h _ r.one
  have hN := NetAt.new (h := h) (n := n) (cv := cv) (fv := fv) (iv := iv) (ov := ov)
  have hw1 : IntKind.i64.wrap (n.inputs + n.flops.length) = n.inputs + n.flops.length := wrapI (by omega) (by omega)
  have hw2 : IntKind.i64.wrap (n.inputs + n.flops.length + n.insts.length) = n.inputs + n.flops.length + n.insts.length := wrapI (by omega) (by omega)
  simp (disch := first | omega | decide | (simp only [List.length_cons, List.length_nil] <;> omega)) only [push_cast, ↓reduceIte, Nat.reduceLT, Nat.reduceEqDiff, reduceCtorEq, Nat.reduceAdd, if_true, if_false, true_and, and_true, hn, hd, ha, hbox, faL foN0, faL foN1, faL foN2, faL foN3, faL foN4, hN.l0, hN.l1, hN.l2, hN.l3, hN.l4, hN.la, r.f.len Tryz.underlying23, r.i.len Tryz.underlying24, hw1, hw2, firstE]

theorem net29 {h : AH} {n : Net} {cv fv iv ov : Value} (r : NetR h n cv fv iv ov) (hs : Small n) {x : Int} :
    ACall Tryz.prog 68 [.agg (netC n cv fv iv ov).toArray, .int .i64 x] h (fun v h' => v = .bool (!badB n x) ∧ h' = h) := by
  refine ACall.viewed rfl ?_
  replace r := r.view
  generalize AH.view h = h at r
  refine ACall.wf ⟨_, Tryz.func68, rfl, by kernel_rfl⟩ fun hwf => ?_
  refine ACall.of_wp 13 [.tmp 4] Tryz.func68 rfl (by kernel_rfl) rfl rfl fun a hn hd ha => ?_
  have hbox := boxA 27 h _ r.one
  have hN := NetAt.new (h := h) (n := n) (cv := cv) (fv := fv) (iv := iv) (ov := ov)
  have r1 := r.sub (Sub.new hwf (.row (netC n cv fv iv ov) 27 true))
  simp (disch := first | omega | decide | (simp only [List.length_cons, List.length_nil] <;> omega)) only [push_cast, ↓reduceIte, Nat.reduceLT, Nat.reduceEqDiff, reduceCtorEq, Nat.reduceAdd, if_true, if_false, true_and, and_true, hn, hd, ha, hbox]
  generalize h.new (.row (netC n cv fv iv ov) 27 true) = h1 at hN r1 ⊢
  by_cases e : x < -2
  · simp (disch := first | omega | decide | (simp only [List.length_cons, List.length_nil] <;> omega)) only [push_cast, ↓reduceIte, Nat.reduceLT, Nat.reduceEqDiff, reduceCtorEq, Nat.reduceAdd, if_true, if_false, true_and, and_true, decide_eq_true, decide_eq_false, hn, hd, ha, ge_iff_le, badB, e, Bool.true_or]
  · simp (disch := first | omega | decide | (simp only [List.length_cons, List.length_nil] <;> omega)) only [push_cast, ↓reduceIte, Nat.reduceLT, Nat.reduceEqDiff, reduceCtorEq, Nat.reduceAdd, if_true, if_false, true_and, and_true, decide_eq_true, decide_eq_false, hn, hd, ha, ge_iff_le, hN.l0, hN.l1, hN.l2, hN.l3, hN.l4, hN.la]
    refine ACall.mono ?_ (nets29 r1 hs)
    rintro _ h1 ⟨rfl, rfl⟩
    by_cases e2 : x < firstE n + n.insts.length
    · simp (disch := first | omega | decide | (simp only [List.length_cons, List.length_nil] <;> omega)) only [push_cast, ↓reduceIte, Nat.reduceLT, Nat.reduceEqDiff, reduceCtorEq, Nat.reduceAdd, if_true, if_false, true_and, and_true, decide_eq_true, decide_eq_false, hn, hd, ha, badB, ge_iff_le, e, e2, Bool.false_or]
    · simp (disch := first | omega | decide | (simp only [List.length_cons, List.length_nil] <;> omega)) only [push_cast, ↓reduceIte, Nat.reduceLT, Nat.reduceEqDiff, reduceCtorEq, Nat.reduceAdd, if_true, if_false, true_and, and_true, decide_eq_true, decide_eq_false, hn, hd, ha, badB, ge_iff_le, e, e2, Bool.false_or]

theorem shape29R {h : AH} {n : Net} {cv fv iv ov : Value} (r : NetR h n cv fv iv ov) (ok : NetOK n) :
    ACall Tryz.prog 48 [.agg (netC n cv fv iv ov).toArray] h (fun v _ => v = .int .i64 (shapeE n)) := by
  refine ACall.wf ⟨_, Tryz.func48, rfl, by kernel_rfl⟩ fun hwf => ?_
  refine ACall.of_wp 118 [.tmp 2] Tryz.func48 rfl (by kernel_rfl) rfl rfl fun a hn hd ha => ?_
  have hbox := boxA 27 h _ r.one
  have hN := NetAt.new (h := h) (n := n) (cv := cv) (fv := fv) (iv := iv) (ov := ov)
  have r1 := r.sub (Sub.new hwf (.row (netC n cv fv iv ov) 27 true))
  have g1 := Gr.refl (hwf.new (.row (netC n cv fv iv ov) 27 true))
  simp (disch := first | omega | decide | (simp only [List.length_cons, List.length_nil] <;> omega)) only [push_cast, ↓reduceIte, Nat.reduceLT, Nat.reduceEqDiff, reduceCtorEq, Nat.reduceAdd, if_true, if_false, true_and, and_true, hn, hd, ha, hbox, faL foN0, faL foN1, faL foN2, faL foN3, faL foN4, hN.l0, hN.l1, hN.l2, hN.l3, hN.l4, hN.la]
  generalize h.new (.row (netC n cv fv iv ov) 27 true) = h1 at hN r1 g1 ⊢
  generalize h.next = B at hN ⊢
  refine ACall.mono ?_ (cells28 r1.c ok.cell)
  rintro _ h1 ⟨rfl, rfl⟩
  simp (disch := first | omega | decide | (simp only [List.length_cons, List.length_nil] <;> omega)) only [push_cast, ↓reduceIte, Nat.reduceLT, Nat.reduceEqDiff, reduceCtorEq, Nat.reduceAdd, if_true, if_false, true_and, and_true, hn, hd, ha]
  refine condV_not (fun e0 => ?_) (fun e0 => ?_)
  · have e : ¬ (cellsE n.cells).2 = 0 := by simpa using e0
    simp (disch := first | omega | decide | (simp only [List.length_cons, List.length_nil] <;> omega)) only [push_cast, ↓reduceIte, Nat.reduceLT, Nat.reduceEqDiff, reduceCtorEq, Nat.reduceAdd, if_true, if_false, true_and, and_true, hn, hd, ha, shapeE, ne_eq, e]
  have e0' : (cellsE n.cells).2 = 0 := by simpa using e0
  simp (disch := first | omega | decide | (simp only [List.length_cons, List.length_nil] <;> omega)) only [push_cast, ↓reduceIte, Nat.reduceLT, Nat.reduceEqDiff, reduceCtorEq, Nat.reduceAdd, if_true, if_false, true_and, and_true, hn, hd, ha, faL foN0, faL foN1, faL foN2, faL foN3, faL foN4, hN.l0, hN.l1, hN.l2, hN.l3, hN.l4, hN.la]
  refine condV_of (fun e1 => ?_) (fun e1 => ?_)
  · have e : n.inputs < 0 := by simpa using e1
    simp (disch := first | omega | decide | (simp only [List.length_cons, List.length_nil] <;> omega)) only [push_cast, ↓reduceIte, Nat.reduceLT, Nat.reduceEqDiff, reduceCtorEq, Nat.reduceAdd, if_true, if_false, true_and, and_true, hn, hd, ha, shapeE, ne_eq, e0', e, not_true_eq_false]
  have e1' : ¬ n.inputs < 0 := by simpa using e1
  have hS : shapeE n = if bigB n = true then 5 else if instsGo n n.insts ≠ 0 then instsGo n n.insts else if n.flops.any (flopB n) = true then 1 else if n.outs.any (badB n) = true then 1 else 0 := by
    simp only [shapeE, ne_eq, e0', e1', not_true_eq_false, if_false]
  by_cases hbig : bigB n = true
  · rw [if_pos hbig] at hS
    have hbg : n.inputs > 64 ∨ (n.flops.length : Int) > 64 ∨ (n.outs.length : Int) > 64 ∨ (n.insts.length : Int) > 4096 := by
      simp only [bigB, Bool.or_eq_true, decide_eq_true_eq] at hbig; omega
    by_cases c1 : n.inputs > 64
    · simp (disch := first | omega | decide | (simp only [List.length_cons, List.length_nil] <;> omega)) only [push_cast, ↓reduceIte, Nat.reduceLT, Nat.reduceEqDiff, reduceCtorEq, Nat.reduceAdd, if_true, if_false, true_and, and_true, hn, hd, ha, faL foN0, faL foN1, faL foN2, faL foN3, faL foN4, hN.l0, hN.l1, hN.l2, hN.l3, hN.l4, hN.la, c1, hS]
    by_cases c2 : (n.flops.length : Int) > 64
    · simp (disch := first | omega | decide | (simp only [List.length_cons, List.length_nil] <;> omega)) only [push_cast, ↓reduceIte, Nat.reduceLT, Nat.reduceEqDiff, reduceCtorEq, Nat.reduceAdd, if_true, if_false, true_and, and_true, hn, hd, ha, faL foN0, faL foN1, faL foN2, faL foN3, faL foN4, hN.l0, hN.l1, hN.l2, hN.l3, hN.l4, hN.la, r1.f.len Tryz.underlying23, c1, c2, hS]
    by_cases c3 : (n.outs.length : Int) > 64
    · simp (disch := first | omega | decide | (simp only [List.length_cons, List.length_nil] <;> omega)) only [push_cast, ↓reduceIte, Nat.reduceLT, Nat.reduceEqDiff, reduceCtorEq, Nat.reduceAdd, if_true, if_false, true_and, and_true, hn, hd, ha, faL foN0, faL foN1, faL foN2, faL foN3, faL foN4, hN.l0, hN.l1, hN.l2, hN.l3, hN.l4, hN.la, r1.f.len Tryz.underlying23, r1.o.lenA Tryz.underlying25, c1, c2, c3, hS]
    have c4 : (n.insts.length : Int) > 4096 := by omega
    simp (disch := first | omega | decide | (simp only [List.length_cons, List.length_nil] <;> omega)) only [push_cast, ↓reduceIte, Nat.reduceLT, Nat.reduceEqDiff, reduceCtorEq, Nat.reduceAdd, if_true, if_false, true_and, and_true, hn, hd, ha, faL foN0, faL foN1, faL foN2, faL foN3, faL foN4, hN.l0, hN.l1, hN.l2, hN.l3, hN.l4, hN.la, r1.f.len Tryz.underlying23, r1.o.lenA Tryz.underlying25, r1.i.len Tryz.underlying24, c1, c2, c3, c4, hS]
  have hsb : n.inputs ≤ 64 ∧ (n.flops.length : Int) ≤ 64 ∧ (n.outs.length : Int) ≤ 64 ∧ (n.insts.length : Int) ≤ 4096 := by
    have hb : bigB n = false := by simpa using hbig
    simp only [bigB, Bool.or_eq_false_iff, decide_eq_false_iff_not] at hb; omega
  obtain ⟨b1, b2, b3, b4⟩ := hsb
  have hsm : Small n := ⟨by omega, by omega, by omega, by omega⟩
  rw [if_neg hbig] at hS
  have c1 : ¬ n.inputs > 64 := by omega
  have c2 : ¬ (n.flops.length : Int) > 64 := by omega
  have c3 : ¬ (n.outs.length : Int) > 64 := by omega
  have c4 : ¬ (n.insts.length : Int) > 4096 := by omega
  simp (disch := first | omega | decide | (simp only [List.length_cons, List.length_nil] <;> omega)) only [push_cast, ↓reduceIte, Nat.reduceLT, Nat.reduceEqDiff, reduceCtorEq, Nat.reduceAdd, if_true, if_false, true_and, and_true, hn, hd, ha, faL foN0, faL foN1, faL foN2, faL foN3, faL foN4, hN.l0, hN.l1, hN.l2, hN.l3, hN.l4, hN.la, r1.f.len Tryz.underlying23, r1.o.lenA Tryz.underlying25, r1.i.len Tryz.underlying24, c1, c2, c3, c4]
  refine AW.loopN 49 [2, 6, 8, 49] (fun m a' h' => Gr h1 h' ∧ ∃ i : Nat, a'.tm 49 = .int .i64 i ∧ i + m = n.insts.length ∧ instsGo n (n.insts.drop i) = instsGo n n.insts) n.insts.length ?_ ?_
  · exact ⟨g1, 0, by simp (disch := first | omega | decide | (simp only [List.length_cons, List.length_nil] <;> omega)) only [push_cast, ↓reduceIte, Nat.reduceLT, Nat.reduceEqDiff, reduceCtorEq, Nat.reduceAdd, if_true, if_false, true_and, and_true], by omega, rfl⟩
  rintro a1 m a' h' hk kn kd kt ⟨hg, i, h49, him, hgo⟩
  simp (disch := first | omega | decide | (simp only [List.length_cons, List.length_nil] <;> omega)) only [push_cast, ↓reduceIte, Nat.reduceLT, Nat.reduceEqDiff, reduceCtorEq, Nat.reduceAdd, if_true, if_false, true_and, and_true, kn, kd, kt, hn, hd, ha, h49]
  refine condV_of (fun hlt => ?_) (fun hge => ?_)
  · have hi : i < n.insts.length := by have := hlt; simp at this; omega
    have r2 := r1.sub hg.sub
    have hN2 := hN.sub hg.sub
    obtain ⟨cs, ⟨pv, rfl, hpv⟩, hld, -, -⟩ := r2.i.get hi default
    replace hld := hld _ agI
    have hpl := ok.pins _ (getD_mem hi default)
    have hdrop : n.insts.drop i = n.insts.getD i default :: n.insts.drop (i + 1) := drop_cons_getD hi default
    rw [hdrop] at hgo
    have hwi : IntKind.i64.wrap ((i : Int) + 1) = i + 1 := wrapI (by omega) (by omega)
    generalize n.insts.getD i default = x at *
    have hone : [Value.int .i64 x.cell, pv].all oneC = true := by simp only [List.all_cons, List.all_nil, hpv.one]; rfl
    have hst := fun (hh : AH) cs e hl => stN agI hh cs e [Value.int .i64 x.cell, pv] hl rfl hone
    have hg2 := hg.new (.row [Value.int .i64 x.cell, pv] 36 true)
    have hs2 := Sub.new hg.wf (.row [Value.int .i64 x.cell, pv] 36 true)
    have hI := CsAt.new h' [Value.int .i64 x.cell, pv] 36 true
    simp (disch := first | omega | decide | (simp only [List.length_cons, List.length_nil] <;> omega)) only [push_cast, ↓reduceIte, Nat.reduceLT, Nat.reduceEqDiff, reduceCtorEq, Nat.reduceAdd, if_true, if_false, true_and, and_true, kn, kd, kt, hn, hd, ha, h49, r2.i.idx Tryz.underlying24 infI, hld, alL zrI, hst, faL foI0, faL foI1, hI.ld fl3]
    generalize h'.new (.row [Value.int .i64 x.cell, pv] 36 true) = h2 at hg2 hs2 hI ⊢
    generalize h'.next = C at hI ⊢
    have r3 := r2.sub hs2
    have hN3 := hN2.sub hs2
    have hpv3 := hpv.sub hs2
    have loop2 : ∀ e, instE n x = e → e ≠ 0 → shapeE n = e := by
      intro e he h0
      rw [hS, ← hgo]; simp only [instsGo, he, ne_eq, h0, not_false_eq_true, if_true]
    refine wantM_not (fun e4 => ?_) (fun e4 => ?_)
    · have hE := loop2 1 (by simp only [instE, e4, Bool.true_or, if_true]) (by decide)
      simp (disch := first | omega | decide | (simp only [List.length_cons, List.length_nil] <;> omega)) only [push_cast, ↓reduceIte, Nat.reduceLT, Nat.reduceEqDiff, reduceCtorEq, Nat.reduceAdd, if_true, if_false, true_and, and_true, kn, kd, kt, hn, hd, ha, h49, e4, hE]
    simp (disch := first | omega | decide | (simp only [List.length_cons, List.length_nil] <;> omega)) only [push_cast, ↓reduceIte, Nat.reduceLT, Nat.reduceEqDiff, reduceCtorEq, Nat.reduceAdd, if_true, if_false, true_and, and_true, kn, kd, kt, hn, hd, ha, h49, e4, faL foI0, faL foI1, hI.ld fl3, faL foN0, faL foN1, faL foN2, faL foN3, faL foN4, hN3.l0, hN3.l1, hN3.l2, hN3.l3, hN3.l4, hN3.la, r3.c.len Tryz.underlying22]
    refine condV_of (fun e5 => ?_) (fun e5 => ?_)
    · have hE := loop2 1 (by simp only [instE, e4, e5, Bool.false_or, if_true]) (by decide)
      simp (disch := first | omega | decide | (simp only [List.length_cons, List.length_nil] <;> omega)) only [push_cast, ↓reduceIte, Nat.reduceLT, Nat.reduceEqDiff, reduceCtorEq, Nat.reduceAdd, if_true, if_false, true_and, and_true, kn, kd, kt, hn, hd, ha, h49, hE]
    have hc0 : 0 ≤ x.cell := by simpa using e4
    have hc1 : x.cell < n.cells.length := by simpa using e5
    obtain ⟨cs, ⟨dv, rfl, hdv⟩, -, hfl, hfa⟩ := r3.c.get (i := x.cell.toNat) (by omega) default
    have hfa1 := hfa _ _ _ foC1
    have hfl1 := hfl 1 _ fl3 (by decide)
    simp (disch := first | omega | decide | (simp only [List.length_cons, List.length_nil] <;> omega)) only [push_cast, ↓reduceIte, Nat.reduceLT, Nat.reduceEqDiff, reduceCtorEq, Nat.reduceAdd, if_true, if_false, true_and, and_true, kn, kd, kt, hn, hd, ha, h49]
    refine AW.drawT (.take 0 [10, 2, 1] (.take 1 [10, 2] (.take 2 [10] (.take 3 [10, 9, 8, 7, 4] (.take 4 [10, 9, 8, 7] (.take 5 [10, 9, 8, 7, 6] (.take 6 [10, 9, 8, 7] (.take 7 [10, 9, 8] (.take 8 [10, 9] (.take 9 [10] (.take 10 [] .done))))))))))) [0, 0, 0, 0, 0, 0, 0, 0, 0, 0, 0] mixed (by kernel_rfl) (by kernel_rfl) ?_
    simp (disch := first | omega | decide | (simp only [List.length_cons, List.length_nil] <;> omega)) only [push_cast, ↓reduceIte, Nat.reduceLT, Nat.reduceEqDiff, reduceCtorEq, Nat.reduceAdd, if_true, if_false, true_and, and_true, kn, kd, kt, hn, hd, ha, h49, faL foI0, faL foI1, hI.ld fl3, hI.ld flI, faL foN0, faL foN1, faL foN2, faL foN3, faL foN4, hN3.l0, hN3.l1, hN3.l2, hN3.l3, hN3.l4, hN3.la, hpv3.lenA Tryz.underlying25, r3.c.idx Tryz.underlying22 infC, hfa1, hfl1]
    have hC : instE n x = if (x.pins.length : Int) ≠ (n.cells.getD x.cell.toNat default).pins then 12 else if x.pins.any (badB n) = true then 1 else 0 := by
      simp only [instE, e4, e5, Bool.false_or, Bool.false_eq_true, if_false]
    refine condV_not (fun e6 => ?_) (fun e6 => ?_)
    · have e : ¬ (x.pins.length : Int) = (n.cells.getD x.cell.toNat default).pins := by simpa using e6
      have hE := loop2 12 (by rw [hC, if_pos e]) (by decide)
      simp (disch := first | omega | decide | (simp only [List.length_cons, List.length_nil] <;> omega)) only [push_cast, ↓reduceIte, Nat.reduceLT, Nat.reduceEqDiff, reduceCtorEq, Nat.reduceAdd, if_true, if_false, true_and, and_true, kn, kd, kt, hn, hd, ha, h49, hE]
    have e6' : (x.pins.length : Int) = (n.cells.getD x.cell.toNat default).pins := by simpa using e6
    rw [if_neg (fun x => x e6')] at hC
    simp (disch := first | omega | decide | (simp only [List.length_cons, List.length_nil] <;> omega)) only [push_cast, ↓reduceIte, Nat.reduceLT, Nat.reduceEqDiff, reduceCtorEq, Nat.reduceAdd, if_true, if_false, true_and, and_true, kn, kd, kt, hn, hd, ha, h49, faL foI0, faL foI1, hI.ld flI, hpv3.lenA Tryz.underlying25]
    refine AW.keep 49 [2, 6, 8, 49] (a0 := a1) (by simp (disch := decide) only [Kp_put, put_none, hk]) (fun hkc => ?_)
    refine AW.loopN 78 [2, 8] (fun q b h' => h' = h2 ∧ ∃ j : Nat, b.tm 78 = .int .i64 j ∧ j + q = x.pins.length ∧ (x.pins.drop j).any (badB n) = x.pins.any (badB n)) x.pins.length ?_ ?_
    · exact ⟨rfl, 0, by simp (disch := first | omega | decide | (simp only [List.length_cons, List.length_nil] <;> omega)) only [push_cast, ↓reduceIte, Nat.reduceLT, Nat.reduceEqDiff, reduceCtorEq, Nat.reduceAdd, if_true, if_false, true_and, and_true], by omega, rfl⟩
    rintro b1 q b h4 hk2 kn2 kd2 kt2 ⟨rfl, j, h78, hjq, hany⟩
    have hk := Kp.trans hkc ⟨kn2, kd2, kt2⟩ (by decide) (by decide)
    simp (disch := first | omega | decide | (simp only [List.length_cons, List.length_nil] <;> omega)) only [push_cast, ↓reduceIte, Nat.reduceLT, Nat.reduceEqDiff, reduceCtorEq, Nat.reduceAdd, if_true, if_false, true_and, and_true, kn2, kd2, kt2, kn, kd, kt, hn, hd, ha, h49, h78]
    refine condV_of (fun hlt2 => ?_) (fun hge2 => ?_)
    · have hj : j < x.pins.length := by have := hlt2; simp at this; omega
      have hidx := hpv3.idxI sl22 .i64 j (by omega) (by omega)
      have hldp := hpv3.ldI sl22 j (by omega)
      rw [Int.toNat_natCast] at hidx
      rw [any_drop hj 0] at hany
      have hw : IntKind.i64.wrap ((j : Int) + 1) = j + 1 := wrapI (by omega) (by omega)
      generalize x.pins.getD j 0 = p at *
      simp (disch := first | omega | decide | (simp only [List.length_cons, List.length_nil] <;> omega)) only [push_cast, ↓reduceIte, Nat.reduceLT, Nat.reduceEqDiff, reduceCtorEq, Nat.reduceAdd, if_true, if_false, true_and, and_true, kn2, kd2, kt2, kn, kd, kt, hn, hd, ha, h49, h78, hidx, hldp, hN3.l0, hN3.l1, hN3.l2, hN3.l3, hN3.l4, hN3.la]
      refine ACall.mono ?_ (net29 (x := p) r3 hsm)
      rintro _ h5 ⟨rfl, rfl⟩
      simp (disch := first | omega | decide | (simp only [List.length_cons, List.length_nil] <;> omega)) only [push_cast, ↓reduceIte, Nat.reduceLT, Nat.reduceEqDiff, reduceCtorEq, Nat.reduceAdd, if_true, if_false, true_and, and_true, kn2, kd2, kt2, kn, kd, kt, hn, hd, ha, h49, h78]
      refine condV_of (fun e7 => ?_) (fun e7 => ?_)
      · rw [e7, Bool.true_or] at hany
        have hE := loop2 1 (by rw [hC, ← hany, if_pos rfl]) (by decide)
        simp (disch := first | omega | decide | (simp only [List.length_cons, List.length_nil] <;> omega)) only [push_cast, ↓reduceIte, Nat.reduceLT, Nat.reduceEqDiff, reduceCtorEq, Nat.reduceAdd, if_true, if_false, true_and, and_true, kn2, kd2, kt2, kn, kd, kt, hn, hd, ha, h49, h78, hE]
      · rw [e7, Bool.false_or] at hany
        simp (disch := first | omega | decide | (simp only [List.length_cons, List.length_nil] <;> omega)) only [push_cast, ↓reduceIte, Nat.reduceLT, Nat.reduceEqDiff, reduceCtorEq, Nat.reduceAdd, if_true, if_false, true_and, and_true, kn2, kd2, kt2, kn, kd, kt, hn, hd, ha, h49, h78, hw]
        exact ⟨q - 1, by omega, by simp (disch := decide) only [Kp_put, put_none, hk2], rfl, j + 1, by simp (disch := first | omega | decide | (simp only [List.length_cons, List.length_nil] <;> omega)) only [push_cast, ↓reduceIte, Nat.reduceLT, Nat.reduceEqDiff, reduceCtorEq, Nat.reduceAdd, if_true, if_false, true_and, and_true], by omega, hany⟩
    · have hj : x.pins.length ≤ j := by have := hge2; simp at this; omega
      rw [List.drop_of_length_le hj, List.any_nil] at hany
      have e7' : ¬ x.pins.any (badB n) = true := by rw [← hany]; decide
      simp (disch := first | omega | decide | (simp only [List.length_cons, List.length_nil] <;> omega)) only [push_cast, ↓reduceIte, Nat.reduceLT, Nat.reduceEqDiff, reduceCtorEq, Nat.reduceAdd, if_true, if_false, true_and, and_true, kn2, kd2, kt2, kn, kd, kt, hn, hd, ha, h49, h78, hwi]
      refine ⟨m - 1, by omega, (by simp (disch := decide) only [Kp_put, put_none, hk]), hg2, i + 1, by simp (disch := first | omega | decide | (simp only [List.length_cons, List.length_nil] <;> omega)) only [push_cast, ↓reduceIte, Nat.reduceLT, Nat.reduceEqDiff, reduceCtorEq, Nat.reduceAdd, if_true, if_false, true_and, and_true], by omega, ?_⟩
      rw [← hgo]
      simp only [instsGo, hC, if_neg e7', ne_eq, not_true_eq_false, if_false]
  · have hi : n.insts.length ≤ i := by have := hge; simp at this; omega
    rw [List.drop_of_length_le hi] at hgo
    have hG : instsGo n n.insts = 0 := by rw [← hgo]; rfl
    rw [if_neg (fun x => x hG)] at hS
    have r2 := r1.sub hg.sub
    have hN2 := hN.sub hg.sub
    clear hgo h49 him hi
    simp (disch := first | omega | decide | (simp only [List.length_cons, List.length_nil] <;> omega)) only [push_cast, ↓reduceIte, Nat.reduceLT, Nat.reduceEqDiff, reduceCtorEq, Nat.reduceAdd, if_true, if_false, true_and, and_true, kn, kd, kt, hn, hd, ha, faL foN0, faL foN1, faL foN2, faL foN3, faL foN4, hN2.l0, hN2.l1, hN2.l2, hN2.l3, hN2.l4, hN2.la, r2.f.len Tryz.underlying23]
    refine AW.loopN 91 [2, 6, 8, 10, 49, 91] (fun m a' h' => Gr h1 h' ∧ ∃ i : Nat, a'.tm 91 = .int .i64 i ∧ i + m = n.flops.length ∧ (n.flops.drop i).any (flopB n) = n.flops.any (flopB n)) n.flops.length ?_ ?_
    · exact ⟨hg, 0, by simp (disch := first | omega | decide | (simp only [List.length_cons, List.length_nil] <;> omega)) only [push_cast, ↓reduceIte, Nat.reduceLT, Nat.reduceEqDiff, reduceCtorEq, Nat.reduceAdd, if_true, if_false, true_and, and_true], by omega, rfl⟩
    rintro b1 m2 b h5 hk2 kn2 kd2 kt2 ⟨hg5, i, h91, him, hany⟩
    have r5 := r1.sub hg5.sub
    have hN5 := hN.sub hg5.sub
    simp (disch := first | omega | decide | (simp only [List.length_cons, List.length_nil] <;> omega)) only [push_cast, ↓reduceIte, Nat.reduceLT, Nat.reduceEqDiff, reduceCtorEq, Nat.reduceAdd, if_true, if_false, true_and, and_true, kn2, kd2, kt2, kn, kd, kt, hn, hd, ha, h91]
    refine condV_of (fun hlt => ?_) (fun hge => ?_)
    · have hi : i < n.flops.length := by have := hlt; simp at this; omega
      obtain ⟨cs, rfl, hld, -, -⟩ := r5.f.get hi default
      replace hld := hld _ agF
      rw [any_drop hi default] at hany
      have hw : IntKind.i64.wrap ((i : Int) + 1) = i + 1 := wrapI (by omega) (by omega)
      generalize n.flops.getD i default = x at *
      have hst := fun (hh : AH) cs e hl => stN agF hh cs e [Value.int .i64 x.next, .int .u8 x.init] hl rfl rfl
      have hg6 := hg5.new (.row [Value.int .i64 x.next, .int .u8 x.init] 65 true)
      have hs6 := Sub.new hg5.wf (.row [Value.int .i64 x.next, .int .u8 x.init] 65 true)
      have hI6 := CsAt.new h5 [Value.int .i64 x.next, .int .u8 x.init] 65 true
      have hN6 := hN5.sub hs6
      simp (disch := first | omega | decide | (simp only [List.length_cons, List.length_nil] <;> omega)) only [push_cast, ↓reduceIte, Nat.reduceLT, Nat.reduceEqDiff, reduceCtorEq, Nat.reduceAdd, if_true, if_false, true_and, and_true, kn2, kd2, kt2, kn, kd, kt, hn, hd, ha, h91, r5.f.idx Tryz.underlying23 infF, hld, alL zrF, hst, faL foF0, faL foF1, hI6.ld fl3, hN6.l0, hN6.l1, hN6.l2, hN6.l3, hN6.l4, hN6.la]
      generalize h5.new (.row [Value.int .i64 x.next, .int .u8 x.init] 65 true) = h6 at hg6 hs6 hI6 hN6 ⊢
      generalize h5.next = C at hI6 ⊢
      have r6 := r5.sub hs6
      refine ACall.mono ?_ (net29 (x := x.next) r6 hsm)
      rintro _ h7 ⟨rfl, rfl⟩
      simp (disch := first | omega | decide | (simp only [List.length_cons, List.length_nil] <;> omega)) only [push_cast, ↓reduceIte, Nat.reduceLT, Nat.reduceEqDiff, reduceCtorEq, Nat.reduceAdd, if_true, if_false, true_and, and_true, kn2, kd2, kt2, kn, kd, kt, hn, hd, ha, h91]
      refine wantM_not (fun e8 => ?_) (fun e8 => ?_)
      · have hF : n.flops.any (flopB n) = true := by rw [← hany]; simp only [flopB, e8, Bool.true_or]
        rw [if_pos hF] at hS
        simp (disch := first | omega | decide | (simp only [List.length_cons, List.length_nil] <;> omega)) only [push_cast, ↓reduceIte, Nat.reduceLT, Nat.reduceEqDiff, reduceCtorEq, Nat.reduceAdd, if_true, if_false, true_and, and_true, kn2, kd2, kt2, kn, kd, kt, hn, hd, ha, h91, e8, hS]
      simp (disch := first | omega | decide | (simp only [List.length_cons, List.length_nil] <;> omega)) only [push_cast, ↓reduceIte, Nat.reduceLT, Nat.reduceEqDiff, reduceCtorEq, Nat.reduceAdd, if_true, if_false, true_and, and_true, kn2, kd2, kt2, kn, kd, kt, hn, hd, ha, h91, e8, faL foF0, faL foF1, hI6.ld fl5]
      refine condV_of (fun e9 => ?_) (fun e9 => ?_)
      · have hF : n.flops.any (flopB n) = true := by rw [← hany]; simp only [flopB, e8, e9, Bool.true_or, Bool.false_or]
        rw [if_pos hF] at hS
        simp (disch := first | omega | decide | (simp only [List.length_cons, List.length_nil] <;> omega)) only [push_cast, ↓reduceIte, Nat.reduceLT, Nat.reduceEqDiff, reduceCtorEq, Nat.reduceAdd, if_true, if_false, true_and, and_true, kn2, kd2, kt2, kn, kd, kt, hn, hd, ha, hS]
      · simp (disch := first | omega | decide | (simp only [List.length_cons, List.length_nil] <;> omega)) only [push_cast, ↓reduceIte, Nat.reduceLT, Nat.reduceEqDiff, reduceCtorEq, Nat.reduceAdd, if_true, if_false, true_and, and_true, kn2, kd2, kt2, kn, kd, kt, hn, hd, ha, h91, hw]
        refine ⟨m2 - 1, by omega, (by simp (disch := decide) only [Kp_put, put_none, hk2]), hg6, i + 1, by simp (disch := first | omega | decide | (simp only [List.length_cons, List.length_nil] <;> omega)) only [push_cast, ↓reduceIte, Nat.reduceLT, Nat.reduceEqDiff, reduceCtorEq, Nat.reduceAdd, if_true, if_false, true_and, and_true], by omega, ?_⟩
        rw [← hany]; simp only [flopB, e8, e9, Bool.false_or]
    · have hi : n.flops.length ≤ i := by have := hge; simp at this; omega
      rw [List.drop_of_length_le hi] at hany
      have hF : ¬ n.flops.any (flopB n) = true := by rw [← hany]; simp
      rw [if_neg hF] at hS
      clear hany him h91 hi
      simp (disch := first | omega | decide | (simp only [List.length_cons, List.length_nil] <;> omega)) only [push_cast, ↓reduceIte, Nat.reduceLT, Nat.reduceEqDiff, reduceCtorEq, Nat.reduceAdd, if_true, if_false, true_and, and_true, kn2, kd2, kt2, kn, kd, kt, hn, hd, ha, faL foN0, faL foN1, faL foN2, faL foN3, faL foN4, hN5.l0, hN5.l1, hN5.l2, hN5.l3, hN5.l4, hN5.la, r5.o.lenA Tryz.underlying25]
      refine AW.loopN 109 [2, 12, 109] (fun q c h' => h' = h5 ∧ ∃ i : Nat, c.tm 109 = .int .i64 i ∧ i + q = n.outs.length ∧ (n.outs.drop i).any (badB n) = n.outs.any (badB n)) n.outs.length ?_ ?_
      · exact ⟨rfl, 0, by simp (disch := first | omega | decide | (simp only [List.length_cons, List.length_nil] <;> omega)) only [push_cast, ↓reduceIte, Nat.reduceLT, Nat.reduceEqDiff, reduceCtorEq, Nat.reduceAdd, if_true, if_false, true_and, and_true], by omega, rfl⟩
      rintro c1 q c h6 hk3 kn3 kd3 kt3 ⟨rfl, i, h109, hiq, hany⟩
      simp (disch := first | omega | decide | (simp only [List.length_cons, List.length_nil] <;> omega)) only [push_cast, ↓reduceIte, Nat.reduceLT, Nat.reduceEqDiff, reduceCtorEq, Nat.reduceAdd, if_true, if_false, true_and, and_true, kn3, kd3, kt3, kn2, kd2, kt2, kn, kd, kt, hn, hd, ha, h109]
      refine condV_of (fun hlt => ?_) (fun hge => ?_)
      · have hi : i < n.outs.length := by have := hlt; simp at this; omega
        have hidx := r5.o.idxI sl22 .i64 i (by omega) (by omega)
        have hldp := r5.o.ldI sl22 i (by omega)
        rw [Int.toNat_natCast] at hidx
        rw [any_drop hi 0] at hany
        have hw : IntKind.i64.wrap ((i : Int) + 1) = i + 1 := wrapI (by omega) (by omega)
        generalize n.outs.getD i 0 = p at *
        simp (disch := first | omega | decide | (simp only [List.length_cons, List.length_nil] <;> omega)) only [push_cast, ↓reduceIte, Nat.reduceLT, Nat.reduceEqDiff, reduceCtorEq, Nat.reduceAdd, if_true, if_false, true_and, and_true, kn3, kd3, kt3, kn2, kd2, kt2, kn, kd, kt, hn, hd, ha, h109, hidx, hldp, hN5.l0, hN5.l1, hN5.l2, hN5.l3, hN5.l4, hN5.la]
        refine ACall.mono ?_ (net29 (x := p) r5 hsm)
        rintro _ h7 ⟨rfl, rfl⟩
        simp (disch := first | omega | decide | (simp only [List.length_cons, List.length_nil] <;> omega)) only [push_cast, ↓reduceIte, Nat.reduceLT, Nat.reduceEqDiff, reduceCtorEq, Nat.reduceAdd, if_true, if_false, true_and, and_true, kn3, kd3, kt3, kn2, kd2, kt2, kn, kd, kt, hn, hd, ha, h109]
        refine condV_of (fun e7 => ?_) (fun e7 => ?_)
        · rw [e7, Bool.true_or] at hany
          rw [if_pos hany.symm] at hS
          simp (disch := first | omega | decide | (simp only [List.length_cons, List.length_nil] <;> omega)) only [push_cast, ↓reduceIte, Nat.reduceLT, Nat.reduceEqDiff, reduceCtorEq, Nat.reduceAdd, if_true, if_false, true_and, and_true, kn3, kd3, kt3, kn2, kd2, kt2, kn, kd, kt, hn, hd, ha, hS]
        · rw [e7, Bool.false_or] at hany
          simp (disch := first | omega | decide | (simp only [List.length_cons, List.length_nil] <;> omega)) only [push_cast, ↓reduceIte, Nat.reduceLT, Nat.reduceEqDiff, reduceCtorEq, Nat.reduceAdd, if_true, if_false, true_and, and_true, kn3, kd3, kt3, kn2, kd2, kt2, kn, kd, kt, hn, hd, ha, h109, hw]
          exact ⟨q - 1, by omega, by simp (disch := decide) only [Kp_put, put_none, hk3], rfl, i + 1, by simp (disch := first | omega | decide | (simp only [List.length_cons, List.length_nil] <;> omega)) only [push_cast, ↓reduceIte, Nat.reduceLT, Nat.reduceEqDiff, reduceCtorEq, Nat.reduceAdd, if_true, if_false, true_and, and_true], by omega, hany⟩
      · have hi : n.outs.length ≤ i := by have := hge; simp at this; omega
        rw [List.drop_of_length_le hi, List.any_nil] at hany
        rw [if_neg (by rw [← hany]; decide)] at hS
        simp (disch := first | omega | decide | (simp only [List.length_cons, List.length_nil] <;> omega)) only [push_cast, ↓reduceIte, Nat.reduceLT, Nat.reduceEqDiff, reduceCtorEq, Nat.reduceAdd, if_true, if_false, true_and, and_true, kn3, kd3, kt3, kn2, kd2, kt2, kn, kd, kt, hn, hd, ha, hS]

theorem shape29 {h : AH} {n : Net} {cv fv iv ov : Value} (r : NetR h n cv fv iv ov) (ok : NetOK n) :
    ACall Tryz.prog 48 [.agg (netC n cv fv iv ov).toArray] h (fun v h' => v = .int .i64 (shapeE n) ∧ h' = h) :=
  ACall.viewed rfl (shape29R r.view ok)


/-! ### Plainly -/

def doneL (n : Net) (O : List Int) : List Bool := (List.range n.insts.length).map fun (j : Nat) => decide ((j : Int) ∈ O)

theorem doneL_len (n : Net) (O : List Int) : (doneL n O).length = n.insts.length := by simp [doneL]
theorem doneL_get {n : Net} {O : List Int} {j : Nat} (hj : j < n.insts.length) : (doneL n O).getD j false = decide ((j : Int) ∈ O) := by
  simp [doneL, List.getD_eq_getElem?_getD, hj]
theorem doneL_set {n : Net} {O : List Int} {i : Nat} (hi : i < n.insts.length) : (doneL n O).set i true = doneL n (O ++ [(i : Int)]) := by
  apply List.ext_getElem?
  intro j
  by_cases hj : j < n.insts.length
  · by_cases hji : j = i
    · subst hji
      rw [List.getElem?_set_self (by simpa [doneL] using hj)]
      simp [doneL, hj]
    · rw [List.getElem?_set_ne (fun e => hji e.symm)]
      have : ¬ (j : Int) = i := by omega
      simp [doneL, hj, this]
  · rw [List.getElem?_eq_none (by simp [doneL]; omega), List.getElem?_eq_none (by simp [doneL]; omega)]
theorem doneL_nil (n : Net) : doneL n [] = List.replicate n.insts.length false := by
  apply List.ext_getElem?
  intro j
  by_cases hj : j < n.insts.length
  · simp [doneL, hj]
  · rw [List.getElem?_eq_none (by simp [doneL]; omega), List.getElem?_eq_none (by simp; omega)]

def pinOK (n : Net) (O : List Int) (p : Int) : Bool := decide (p < firstE n) || decide (p - firstE n ∈ O)
def readyB (n : Net) (O : List Int) (i : Nat) : Bool := !decide ((i : Int) ∈ O) && (pinsOf n i).all (pinOK n O)

theorem readyB_push {n : Net} {O : List Int} {i : Nat} (t : Topo n O) (hi : i < n.insts.length) (hr : readyB n O i = true) : Topo n (O ++ [(i : Int)]) := by
  simp only [readyB, Bool.and_eq_true, Bool.not_eq_true', decide_eq_false_iff_not, List.all_eq_true] at hr
  refine t.push (by omega) (by omega) hr.1 ?_
  rw [Int.toNat_natCast, rem, List.countP_eq_zero]
  intro p hp
  have := hr.2 p hp
  simp only [pinOK, Bool.or_eq_true, decide_eq_true_eq] at this
  simp only [remB, Bool.and_eq_true, decide_eq_true_eq, Bool.not_eq_true', decide_eq_false_iff_not, not_and, Classical.not_not]
  intro h
  rcases this with h1 | h1
  · omega
  · exact h1

theorem readyB_wait {n : Net} {O : List Int} {i : Nat} (hr : readyB n O i = false) (hO : (i : Int) ∉ O) : ∃ p ∈ pinsOf n i, firstE n ≤ p ∧ p - firstE n ∉ O := by
  simp only [readyB, decide_eq_false hO, Bool.not_false, Bool.true_and, List.all_eq_false] at hr
  obtain ⟨p, hp, hq⟩ := hr
  simp only [pinOK, Bool.or_eq_true, decide_eq_true_eq, not_or] at hq
  exact ⟨p, hp, by omega, hq.2⟩

theorem Topo.empty (n : Net) : Topo n [] := ⟨List.nodup_nil, fun x h => (nomatch h), fun j x h => by simp at h⟩

/-! ### The walk -/

def OrdPost (n : Net) (h : AH) (v : Value) (h' : AH) : Prop := Gr h h' ∧ ∃ O : List Int, Topo n O ∧ Stuck n O ∧ SlOf h' v (O.map (.int .i64))

/-- What the reference's search keeps: the marks in D, the order so far. -/
structure RefI (n : Net) (b h : AH) (D : Nat) (nm : Nat → Nat) (ob : Nat → Option AObj) (O : List Int) (ov : Value) : Prop where
  own : _root_.Go.Ab.Owns b h nm ob
  d : nm 0 = D
  at0 : ob 0 = some (.row ((doneL n O).map .bool) 4 true)
  o : _root_.Go.Ab.Vec 3 ov (ob 1) (nm 1) (O.map (.int .i64))
  t : Topo n O

theorem RefI.get {n : Net} {b h : AH} {D : Nat} {nm : Nat → Nat} {ob : Nat → Option AObj} {O : List Int} {ov : Value} (R : RefI n b h D nm ob O ov) : h.get D = some (.row ((doneL n O).map .bool) 4 true) := R.d ▸ R.own.get 0 _ R.at0

theorem RefI.le {n : Net} {b h : AH} {D : Nat} {nm : Nat → Nat} {ob : Nat → Option AObj} {O : List Int} {ov : Value} (R : RefI n b h D nm ob O ov) : O.length ≤ n.insts.length := nodup_le R.t.nodup R.t.range

theorem RefI.push {n : Net} {b h : AH} {D : Nat} {nm : Nat → Nat} {ob : Nat → Option AObj} {O : List Int} {ov : Value} (w0 : WFH b) (R : RefI n b h D nm ob O ov) (hil : n.insts.length ≤ 4096) {i : Nat} (hi : i < n.insts.length) (hr : readyB n O i = true) :
    ∃ h', aStore Tryz.prog 4 (.pointer (some ⟨D, i, none⟩)) (.bool true) h = some h' ∧ aBuildSlice Tryz.prog 25 1 [(0, .int .i64 i)] h' = some (.slice (some ⟨h'.next, 0, none⟩) 1 1, h'.new (.row [.int .i64 i] 3 true)) ∧
      ∃ v' h'', aAppend Tryz.prog #[25, 25] ov (.slice (some ⟨h'.next, 0, none⟩) 1 1) (h'.new (.row [.int .i64 i] 3 true)) = some (v', h'') ∧ ∃ nm' ob', RefI n b h'' D nm' ob' (O ++ [(i : Int)]) v' := by
  have hst := stRow sl23 (f := Value.bool) R.get one_bool i true (by rw [doneL_len]; exact hi)
  rw [doneL_set hi] at hst
  have ho := _root_.Go.Ab.Owns.set (o' := .row ((doneL n (O ++ [(i : Int)])).map .bool) 4 true) w0 R.own R.at0
  rw [R.d] at ho
  generalize h.set D (.row ((doneL n (O ++ [(i : Int)])).map .bool) 4 true) = h' at hst ho
  have g3 := (Gr.refl ho.gr.wf).new (.row [.int .i64 i] 3 true)
  have o3 := ho.grown g3
  have hB : (h'.new (.row [.int .i64 i] 3 true)).get h'.next = some (.row [.int .i64 i] 3 true) := by rw [AH.new_get, if_pos rfl]
  have hle := R.le
  have hV : _root_.Go.Ab.Vec 3 ov (upd ob 0 (some (.row ((doneL n (O ++ [(i : Int)])).map .bool) 4 true)) 1) (nm 1) (O.map (.int .i64)) := by rw [upd_ne _ _ (by decide)]; exact R.o
  obtain ⟨v', h4, happ, hup⟩ := appendV (t := 25) (t2 := 25) t22 ⟨_, Tryz.underlying25⟩ g3.wf hV (o3.get 1) hB rfl rfl (by simp; omega) (by simp; omega)
  obtain ⟨A', o', hv', ho'⟩ := o3.vec (r := 1) w0 hup
  refine ⟨h', hst, aBuild1 t22 h' (x := .int .i64 i) rfl rfl, v', h4, happ, _, _, ⟨ho', ?_, ?_, ?_, readyB_push R.t hi hr⟩⟩
  · rw [upd_ne _ _ (by decide)]; exact R.d
  · rw [upd_ne _ _ (by decide), upd_same]
  · rw [upd_same, upd_same, List.map_append]; exact hv'

set_option maxHeartbeats 8000000 in
theorem order29 {h : AH} {n : Net} {cv fv iv ov : Value} (r : NetR h n cv fv iv ov) (s : ShapeOK n) :
    ACall Tryz.prog 49 [.agg (netC n cv fv iv ov).toArray] h (OrdPost n h) := by
  refine ACall.wf ⟨_, Tryz.func49, rfl, by kernel_rfl⟩ fun hwf => ?_
  refine ACall.of_wp 73 [.tmp 2] Tryz.func49 rfl (by kernel_rfl) rfl rfl fun a hn hd ha => ?_
  have hi0 := s.i0; have hi1 := s.i1; have hfl := s.fl; have hil := s.il
  have hbox := boxA 27 h _ r.one
  have hN := NetAt.new (h := h) (n := n) (cv := cv) (fv := fv) (iv := iv) (ov := ov)
  have r1 := r.sub (Sub.new hwf (.row (netC n cv fv iv ov) 27 true))
  have g1 : Gr h (h.new (.row (netC n cv fv iv ov) 27 true)) := (Gr.refl hwf).new _
  have hwF : IntKind.i64.wrap (n.inputs + n.flops.length) = firstE n := wrapI (by omega) (by omega)
  have hF : 0 ≤ firstE n ∧ firstE n ≤ 128 := by unfold firstE; omega
  have hm := fun hh => aMakeSlice_at t23 hh n.insts.length (by omega) (by omega)
  simp (disch := first | omega | decide | (simp only [List.length_cons, List.length_nil] <;> omega)) only [push_cast, ↓reduceIte, Nat.reduceLT, Nat.reduceEqDiff, reduceCtorEq, Nat.reduceAdd, if_true, if_false, true_and, and_true, hn, hd, ha, hbox, faL foN0, faL foN1, faL foN2, faL foN3, faL foN4, hN.l0, hN.l1, hN.l2, hN.l3, hN.l4, hN.la, r1.f.len Tryz.underlying23, r1.i.len Tryz.underlying24, hwF, hm]
  generalize h.new (.row (netC n cv fv iv ov) 27 true) = h1 at hN r1 g1 ⊢
  generalize h.next = B at hN ⊢
  have w1 := g1.wf
  have hrep : List.replicate n.insts.length (Value.bool false) = (doneL n []).map .bool := by rw [doneL_nil]; simp
  rw [hrep]
  have hD0 : (h1.new (.row ((doneL n []).map .bool) 4 true)).get h1.next = some (.row ((doneL n []).map .bool) 4 true) := by rw [AH.new_get, if_pos rfl]
  have R0 : RefI n h1 (h1.new (.row ((doneL n []).map .bool) 4 true)) h1.next (fun _ => h1.next) (fun i => if i = 0 then some (.row ((doneL n []).map .bool) 4 true) else none) [] (.slice none 0 0) := by
    refine ⟨⟨fun i o hi => ?_, fun i j o p hi hj hne => ?_, fun i o hi => Nat.le_refl _, (Gr.refl w1).new _⟩, rfl, rfl, .inl ⟨rfl, rfl, rfl⟩, Topo.empty n⟩
    · by_cases e : i = 0
      · simp only [if_pos e] at hi; cases hi; exact hD0
      · simp only [if_neg e] at hi; cases hi
    · by_cases e : i = 0
      · by_cases e2 : j = 0
        · exact absurd (e.trans e2.symm) hne
        · simp only [if_neg e2] at hj; cases hj
      · simp only [if_neg e] at hi; cases hi
  generalize h1.new (.row ((doneL n []).map .bool) 4 true) = h2 at R0 ⊢
  generalize hDe : h1.next = D at R0 ⊢
  refine AW.loopN 21 [5, 6, 7, 8, 10] (fun m a' h' => ∃ (O : List Int) (fd : Bool) (nm : Nat → Nat) (ob : Nat → Option AObj) (ov : Value), a'.tm 6 = .bool fd ∧ a'.tm 5 = ov ∧ RefI n h1 h' D nm ob O ov ∧ (fd = false → Stuck n O) ∧ m = if fd = true then n.insts.length - O.length + 1 else 0) (n.insts.length + 1) ?_ ?_
  · exact ⟨[], true, _, _, _, by simp (disch := first | omega | decide | (simp only [List.length_cons, List.length_nil] <;> omega)) only [push_cast, ↓reduceIte, Nat.reduceLT, Nat.reduceEqDiff, reduceCtorEq, Nat.reduceAdd, if_true, if_false, true_and, and_true], by simp (disch := first | omega | decide | (simp only [List.length_cons, List.length_nil] <;> omega)) only [push_cast, ↓reduceIte, Nat.reduceLT, Nat.reduceEqDiff, reduceCtorEq, Nat.reduceAdd, if_true, if_false, true_and, and_true], R0, fun e => (nomatch e), by simp⟩
  clear R0
  rintro a1 m a' h' hk kn kd kt ⟨O, fd, nm, ob, ov', h6, h5, R, hst, hm⟩
  cases fd with
  | false =>
    simp (disch := first | omega | decide | (simp only [List.length_cons, List.length_nil] <;> omega)) only [push_cast, ↓reduceIte, Nat.reduceLT, Nat.reduceEqDiff, reduceCtorEq, Nat.reduceAdd, if_true, if_false, true_and, and_true, kn, kd, kt, hn, hd, ha, h6, h5]
    exact ⟨g1.trans R.own.gr, O, R.t, hst rfl, R.o.sl (R.own.get 1)⟩
  | true =>
    rw [if_pos rfl] at hm
    simp (disch := first | omega | decide | (simp only [List.length_cons, List.length_nil] <;> omega)) only [push_cast, ↓reduceIte, Nat.reduceLT, Nat.reduceEqDiff, reduceCtorEq, Nat.reduceAdd, if_true, if_false, true_and, and_true, kn, kd, kt, hn, hd, ha, h6, h5]
    refine AW.keep 21 [5, 6, 7, 8, 10] (a0 := a1) (by simp (disch := decide) only [Kp_put, put_none, hk]) (fun hkc => ?_)
    refine AW.loopN 22 [5, 6, 7, 8, 10] (fun q b h' => ∃ (i : Nat) (O2 : List Int) (fd : Bool) (nm : Nat → Nat) (ob : Nat → Option AObj) (ov : Value), b.tm 7 = .int .i64 i ∧ b.tm 6 = .bool fd ∧ b.tm 5 = ov ∧ i + q = n.insts.length ∧ RefI n h1 h' D nm ob O2 ov ∧
      ((fd = false ∧ O2 = O ∧ ∀ j : Nat, j < i → (j : Int) ∉ O → ∃ p ∈ pinsOf n j, firstE n ≤ p ∧ p - firstE n ∉ O) ∨ (fd = true ∧ O2.length = O.length + 1))) n.insts.length ?_ ?_
    · exact ⟨0, O, false, nm, ob, ov', by simp (disch := first | omega | decide | (simp only [List.length_cons, List.length_nil] <;> omega)) only [push_cast, ↓reduceIte, Nat.reduceLT, Nat.reduceEqDiff, reduceCtorEq, Nat.reduceAdd, if_true, if_false, true_and, and_true], by simp (disch := first | omega | decide | (simp only [List.length_cons, List.length_nil] <;> omega)) only [push_cast, ↓reduceIte, Nat.reduceLT, Nat.reduceEqDiff, reduceCtorEq, Nat.reduceAdd, if_true, if_false, true_and, and_true], by simp (disch := first | omega | decide | (simp only [List.length_cons, List.length_nil] <;> omega)) only [push_cast, ↓reduceIte, Nat.reduceLT, Nat.reduceEqDiff, reduceCtorEq, Nat.reduceAdd, if_true, if_false, true_and, and_true, h5], by omega, R, .inl ⟨rfl, rfl, fun j hj => by omega⟩⟩
    clear R hst nm ob ov' h5 h6
    rintro b1 q b h4 hk2 kn2 kd2 kt2 ⟨i, O2, fd, nm, ob, ov', h7, h6, h5, hiq, R, hcase⟩
    have hk := Kp.trans hkc ⟨kn2, kd2, kt2⟩ (by decide) (by decide)
    have hg4 := R.own.gr
    have hN4 := hN.sub hg4.sub
    have r4 := r1.sub hg4.sub
    have hle := R.le
    have hdone : fd = true → ∃ m', m' < m ∧ m' = n.insts.length - O2.length + 1 := fun e => by
      rcases hcase with ⟨rfl, _⟩ | ⟨_, hl⟩
      · cases e
      · exact ⟨_, by omega, rfl⟩
    simp (disch := first | omega | decide | (simp only [List.length_cons, List.length_nil] <;> omega)) only [push_cast, ↓reduceIte, Nat.reduceLT, Nat.reduceEqDiff, reduceCtorEq, Nat.reduceAdd, if_true, if_false, true_and, and_true, kn2, kd2, kt2, kn, kd, kt, hn, hd, ha, h7, h6, h5, faL foN0, faL foN1, faL foN2, faL foN3, faL foN4, hN4.l0, hN4.l1, hN4.l2, hN4.l3, hN4.l4, hN4.la, r4.i.len Tryz.underlying24]
    refine wantM_of (fun hlt => ?_) (fun hge => ?_)
    case refine_2 =>
      have hi : i = n.insts.length := by simp at hge; omega
      cases fd with
      | true =>
        obtain ⟨m', hm', e⟩ := hdone rfl
        simp (disch := first | omega | decide | (simp only [List.length_cons, List.length_nil] <;> omega)) only [push_cast, ↓reduceIte, Nat.reduceLT, Nat.reduceEqDiff, reduceCtorEq, Nat.reduceAdd, if_true, if_false, true_and, and_true, kn2, kd2, kt2, kn, kd, kt, hn, hd, ha, h7, h6, h5, hge]
        exact ⟨m', hm', (by simp (disch := decide) only [Kp_put, put_none, hk]), O2, true, nm, ob, ov', by simp (disch := first | omega | decide | (simp only [List.length_cons, List.length_nil] <;> omega)) only [push_cast, ↓reduceIte, Nat.reduceLT, Nat.reduceEqDiff, reduceCtorEq, Nat.reduceAdd, if_true, if_false, true_and, and_true, h6], by simp (disch := first | omega | decide | (simp only [List.length_cons, List.length_nil] <;> omega)) only [push_cast, ↓reduceIte, Nat.reduceLT, Nat.reduceEqDiff, reduceCtorEq, Nat.reduceAdd, if_true, if_false, true_and, and_true, h5], R, fun e => (nomatch e), by rw [if_pos rfl]; exact e⟩
      | false =>
        obtain ⟨_, rfl, hw⟩ | ⟨e, _⟩ := hcase
        · simp (disch := first | omega | decide | (simp only [List.length_cons, List.length_nil] <;> omega)) only [push_cast, ↓reduceIte, Nat.reduceLT, Nat.reduceEqDiff, reduceCtorEq, Nat.reduceAdd, if_true, if_false, true_and, and_true, kn2, kd2, kt2, kn, kd, kt, hn, hd, ha, h7, h6, h5, hge]
          exact ⟨0, by omega, (by simp (disch := decide) only [Kp_put, put_none, hk]), O2, false, nm, ob, ov', by simp (disch := first | omega | decide | (simp only [List.length_cons, List.length_nil] <;> omega)) only [push_cast, ↓reduceIte, Nat.reduceLT, Nat.reduceEqDiff, reduceCtorEq, Nat.reduceAdd, if_true, if_false, true_and, and_true, h6], by simp (disch := first | omega | decide | (simp only [List.length_cons, List.length_nil] <;> omega)) only [push_cast, ↓reduceIte, Nat.reduceLT, Nat.reduceEqDiff, reduceCtorEq, Nat.reduceAdd, if_true, if_false, true_and, and_true, h5], R, fun _ j hj => hw j (by omega), by simp⟩
        · cases e
    have hi : i < n.insts.length := by simp at hlt; omega
    cases fd with
    | true =>
      obtain ⟨m', hm', e⟩ := hdone rfl
      simp (disch := first | omega | decide | (simp only [List.length_cons, List.length_nil] <;> omega)) only [push_cast, ↓reduceIte, Nat.reduceLT, Nat.reduceEqDiff, reduceCtorEq, Nat.reduceAdd, if_true, if_false, true_and, and_true, kn2, kd2, kt2, kn, kd, kt, hn, hd, ha, h7, h6, h5, hlt]
      exact ⟨m', hm', (by simp (disch := decide) only [Kp_put, put_none, hk]), O2, true, nm, ob, ov', by simp (disch := first | omega | decide | (simp only [List.length_cons, List.length_nil] <;> omega)) only [push_cast, ↓reduceIte, Nat.reduceLT, Nat.reduceEqDiff, reduceCtorEq, Nat.reduceAdd, if_true, if_false, true_and, and_true, h6], by simp (disch := first | omega | decide | (simp only [List.length_cons, List.length_nil] <;> omega)) only [push_cast, ↓reduceIte, Nat.reduceLT, Nat.reduceEqDiff, reduceCtorEq, Nat.reduceAdd, if_true, if_false, true_and, and_true, h5], R, fun e => (nomatch e), by rw [if_pos rfl]; exact e⟩
    | false =>
      obtain ⟨_, rfl, hw⟩ | ⟨e, _⟩ := hcase
      case inr => cases e
      have hldD := ldRow sl23 false (f := Value.bool) R.get rfl i (by rw [doneL_len]; exact hi)
      rw [doneL_get hi] at hldD
      obtain ⟨cs, ⟨pv, rfl, hpv⟩, -, hcf, hca⟩ := r4.i.get (P := Tryz.prog) hi default
      have hcf1 := hcf 1 _ flI (by decide)
      have hca1 := hca _ _ _ foI1
      have hidx := r4.i.idx (P := Tryz.prog) Tryz.underlying24 infI .i64 i (by omega) (by omega)
      rw [Int.toNat_natCast] at hidx
      have hidxD := idxL sl23 D 0 n.insts.length n.insts.length .i64 i (by omega) (by omega)
      rw [Int.toNat_natCast] at hidxD
      have hp4 := s.pinsOf4 hi
      have hpr : ∀ p ∈ pinsOf n i, -2 ≤ p ∧ p < firstE n + n.insts.length := fun p hp => s.pinOf hi hp
      have hpe : (n.insts.getD i default).pins = pinsOf n i := rfl
      have hwi : IntKind.i64.wrap ((i : Int) + 1) = i + 1 := wrapI (by omega) (by omega)
      rw [hpe] at hpv
      simp (disch := first | omega | decide | (simp only [List.length_cons, List.length_nil] <;> omega)) only [push_cast, ↓reduceIte, Nat.reduceLT, Nat.reduceEqDiff, reduceCtorEq, Nat.reduceAdd, if_true, if_false, true_and, and_true, kn2, kd2, kt2, kn, kd, kt, hn, hd, ha, h7, h6, h5, hlt, hidxD, hldD, faL foN0, faL foN1, faL foN2, faL foN3, faL foN4, hN4.l0, hN4.l1, hN4.l2, hN4.l3, hN4.l4, hN4.la, hidx, hca1, hcf1, hpv.lenA Tryz.underlying25]
      refine AW.keep 22 [5, 6, 7, 8, 10] (a0 := b1) (by simp (disch := decide) only [Kp_put, put_none, hk2]) (fun hkc2 => ?_)
      refine AW.mono (Q := fun ex c h' => ex = .exit 4 ∧ h' = h4 ∧ c.n = 73 ∧ c.df = [] ∧ Kp 22 [5, 6, 7, 8, 10] b1 c ∧ c.tm 4 = .slice (some ⟨D, 0, none⟩) n.insts.length n.insts.length ∧ c.tm 5 = ov' ∧ c.tm 6 = .bool false ∧ c.tm 7 = .int .i64 i ∧ c.tm 8 = .bool (readyB n O2 i)) ?_ ?_
      · rintro _ c h5' ⟨rfl, rfl, cn, cd, ck, c4, c5, c6, c7, c8⟩
        have hk := ck
        simp (disch := first | omega | decide | (simp only [List.length_cons, List.length_nil] <;> omega)) only [push_cast, ↓reduceIte, Nat.reduceLT, Nat.reduceEqDiff, reduceCtorEq, Nat.reduceAdd, if_true, if_false, true_and, and_true, cn, cd, c4, c5, c6, c7, c8]
        refine condV_of (fun hr => ?_) (fun hr => ?_)
        · obtain ⟨k1, f1, f2, v', k2, f3, nm', ob', R'⟩ := R.push w1 hil hi hr
          simp (disch := first | omega | decide | (simp only [List.length_cons, List.length_nil] <;> omega)) only [push_cast, ↓reduceIte, Nat.reduceLT, Nat.reduceEqDiff, reduceCtorEq, Nat.reduceAdd, if_true, if_false, true_and, and_true, cn, cd, c4, c5, c6, c7, c8, hidxD, f1, f2, f3, hwi]
          exact ⟨q - 1, by omega, (by simp (disch := decide) only [Kp_put, put_none, hk]), i + 1, _, true, nm', ob', v', by simp (disch := first | omega | decide | (simp only [List.length_cons, List.length_nil] <;> omega)) only [push_cast, ↓reduceIte, Nat.reduceLT, Nat.reduceEqDiff, reduceCtorEq, Nat.reduceAdd, if_true, if_false, true_and, and_true], by simp (disch := first | omega | decide | (simp only [List.length_cons, List.length_nil] <;> omega)) only [push_cast, ↓reduceIte, Nat.reduceLT, Nat.reduceEqDiff, reduceCtorEq, Nat.reduceAdd, if_true, if_false, true_and, and_true], by simp (disch := first | omega | decide | (simp only [List.length_cons, List.length_nil] <;> omega)) only [push_cast, ↓reduceIte, Nat.reduceLT, Nat.reduceEqDiff, reduceCtorEq, Nat.reduceAdd, if_true, if_false, true_and, and_true], by omega, R', .inr ⟨rfl, by simp⟩⟩
        · simp (disch := first | omega | decide | (simp only [List.length_cons, List.length_nil] <;> omega)) only [push_cast, ↓reduceIte, Nat.reduceLT, Nat.reduceEqDiff, reduceCtorEq, Nat.reduceAdd, if_true, if_false, true_and, and_true, cn, cd, c4, c5, c6, c7, c8, hwi]
          exact ⟨q - 1, by omega, (by simp (disch := decide) only [Kp_put, put_none, hk]), i + 1, _, false, nm, ob, ov', by simp (disch := first | omega | decide | (simp only [List.length_cons, List.length_nil] <;> omega)) only [push_cast, ↓reduceIte, Nat.reduceLT, Nat.reduceEqDiff, reduceCtorEq, Nat.reduceAdd, if_true, if_false, true_and, and_true], by simp (disch := first | omega | decide | (simp only [List.length_cons, List.length_nil] <;> omega)) only [push_cast, ↓reduceIte, Nat.reduceLT, Nat.reduceEqDiff, reduceCtorEq, Nat.reduceAdd, if_true, if_false, true_and, and_true, c6], by simp (disch := first | omega | decide | (simp only [List.length_cons, List.length_nil] <;> omega)) only [push_cast, ↓reduceIte, Nat.reduceLT, Nat.reduceEqDiff, reduceCtorEq, Nat.reduceAdd, if_true, if_false, true_and, and_true, c5], by omega, R, .inl ⟨rfl, rfl, fun j hj hO => by
            by_cases hji : j = i
            · subst hji; exact readyB_wait hr hO
            · exact hw j (by omega) hO⟩⟩
      refine AW.loopN 45 [8, 10] (fun q2 c h' => h' = h4 ∧ ∃ (j : Nat) (rb : Bool), c.tm 45 = .int .i64 j ∧ j + q2 = (pinsOf n i).length ∧ c.tm 8 = .bool rb ∧ (rb && ((pinsOf n i).drop j).all (pinOK n O2)) = readyB n O2 i) (pinsOf n i).length ?_ ?_
      · exact ⟨rfl, 0, !decide ((i : Int) ∈ O2), by simp (disch := first | omega | decide | (simp only [List.length_cons, List.length_nil] <;> omega)) only [push_cast, ↓reduceIte, Nat.reduceLT, Nat.reduceEqDiff, reduceCtorEq, Nat.reduceAdd, if_true, if_false, true_and, and_true], by omega, by simp (disch := first | omega | decide | (simp only [List.length_cons, List.length_nil] <;> omega)) only [push_cast, ↓reduceIte, Nat.reduceLT, Nat.reduceEqDiff, reduceCtorEq, Nat.reduceAdd, if_true, if_false, true_and, and_true], rfl⟩
      rintro c1 q2 c h5' hk3 kn3 kd3 kt3 ⟨rfl, j, rb, h45, hjq, h8, hgo⟩
      have hkc3 := Kp.trans hkc2 ⟨kn3, kd3, kt3⟩ (by decide) (by decide)
      simp (disch := first | omega | decide | (simp only [List.length_cons, List.length_nil] <;> omega)) only [push_cast, ↓reduceIte, Nat.reduceLT, Nat.reduceEqDiff, reduceCtorEq, Nat.reduceAdd, if_true, if_false, true_and, and_true, kn3, kd3, kt3, kn2, kd2, kt2, kn, kd, kt, hn, hd, ha, h45, h8]
      refine condV_of (fun hlt3 => ?_) (fun hge3 => ?_)
      · have hj : j < (pinsOf n i).length := by have := hlt3; simp at this; omega
        have hidxp := hpv.idxI sl22 .i64 j (by omega) (by omega)
        have hldp := hpv.ldI sl22 j (by omega)
        rw [Int.toNat_natCast] at hidxp
        have hr := hpr _ (getD_mem hj 0)
        rw [all_drop hj 0] at hgo
        have hw3 : IntKind.i64.wrap ((j : Int) + 1) = j + 1 := wrapI (by omega) (by omega)
        generalize (pinsOf n i).getD j 0 = p at *
        cases rb with
        | false =>
          simp (disch := first | omega | decide | (simp only [List.length_cons, List.length_nil] <;> omega)) only [push_cast, ↓reduceIte, Nat.reduceLT, Nat.reduceEqDiff, reduceCtorEq, Nat.reduceAdd, if_true, if_false, true_and, and_true, kn3, kd3, kt3, kn2, kd2, kt2, kn, kd, kt, hn, hd, ha, h45, h8, hidxp, hldp, hw3]
          exact ⟨q2 - 1, by omega, by simp (disch := decide) only [Kp_put, put_none, hk3], rfl, j + 1, false, by simp (disch := first | omega | decide | (simp only [List.length_cons, List.length_nil] <;> omega)) only [push_cast, ↓reduceIte, Nat.reduceLT, Nat.reduceEqDiff, reduceCtorEq, Nat.reduceAdd, if_true, if_false, true_and, and_true], by omega, by simp (disch := first | omega | decide | (simp only [List.length_cons, List.length_nil] <;> omega)) only [push_cast, ↓reduceIte, Nat.reduceLT, Nat.reduceEqDiff, reduceCtorEq, Nat.reduceAdd, if_true, if_false, true_and, and_true], by rw [← hgo]; rfl⟩
        | true =>
          by_cases hpf : p < firstE n
          · rw [pinOK, decide_eq_true hpf, Bool.true_or, Bool.true_and] at hgo
            simp (disch := first | omega | decide | (simp only [List.length_cons, List.length_nil] <;> omega)) only [push_cast, ↓reduceIte, Nat.reduceLT, Nat.reduceEqDiff, reduceCtorEq, Nat.reduceAdd, if_true, if_false, true_and, and_true, kn3, kd3, kt3, kn2, kd2, kt2, kn, kd, kt, hn, hd, ha, h45, h8, hidxp, hldp, hw3, hpf]
            exact ⟨q2 - 1, by omega, by simp (disch := decide) only [Kp_put, put_none, hk3], rfl, j + 1, true, by simp (disch := first | omega | decide | (simp only [List.length_cons, List.length_nil] <;> omega)) only [push_cast, ↓reduceIte, Nat.reduceLT, Nat.reduceEqDiff, reduceCtorEq, Nat.reduceAdd, if_true, if_false, true_and, and_true], by omega, by simp (disch := first | omega | decide | (simp only [List.length_cons, List.length_nil] <;> omega)) only [push_cast, ↓reduceIte, Nat.reduceLT, Nat.reduceEqDiff, reduceCtorEq, Nat.reduceAdd, if_true, if_false, true_and, and_true], hgo⟩
          · have hsub : IntKind.i64.wrap (p - firstE n) = p - firstE n := wrapI (by omega) (by omega)
            have hrn : (p - firstE n).toNat < n.insts.length := by omega
            have hldq := ldRow sl23 false (f := Value.bool) R.get rfl (p - firstE n).toNat (by rw [doneL_len]; exact hrn)
            rw [doneL_get hrn, Int.toNat_of_nonneg (by omega)] at hldq
            have hidxq := idxL sl23 D 0 n.insts.length n.insts.length .i64 (p - firstE n) (by omega) (by omega)
            rw [pinOK, decide_eq_false hpf, Bool.false_or, Bool.true_and] at hgo
            simp (disch := first | omega | decide | (simp only [List.length_cons, List.length_nil] <;> omega)) only [push_cast, ↓reduceIte, Nat.reduceLT, Nat.reduceEqDiff, reduceCtorEq, Nat.reduceAdd, if_true, if_false, true_and, and_true, kn3, kd3, kt3, kn2, kd2, kt2, kn, kd, kt, hn, hd, ha, h45, h8, hidxp, hldp, hw3, hpf, hsub, hidxq, hldq]
            exact ⟨q2 - 1, by omega, by simp (disch := decide) only [Kp_put, put_none, hk3], rfl, j + 1, decide (p - firstE n ∈ O2), by simp (disch := first | omega | decide | (simp only [List.length_cons, List.length_nil] <;> omega)) only [push_cast, ↓reduceIte, Nat.reduceLT, Nat.reduceEqDiff, reduceCtorEq, Nat.reduceAdd, if_true, if_false, true_and, and_true], by omega, by simp (disch := first | omega | decide | (simp only [List.length_cons, List.length_nil] <;> omega)) only [push_cast, ↓reduceIte, Nat.reduceLT, Nat.reduceEqDiff, reduceCtorEq, Nat.reduceAdd, if_true, if_false, true_and, and_true], hgo⟩
      · have hj : (pinsOf n i).length ≤ j := by have := hge3; simp at this; omega
        rw [List.drop_of_length_le hj, List.all_nil, Bool.and_true] at hgo
        subst hgo
        simp (disch := first | omega | decide | (simp only [List.length_cons, List.length_nil] <;> omega)) only [push_cast, ↓reduceIte, Nat.reduceLT, Nat.reduceEqDiff, reduceCtorEq, Nat.reduceAdd, if_true, if_false, true_and, and_true, kn3, kd3, kt3, kn2, kd2, kt2, kn, kd, kt, hn, hd, ha, h45, h8, h5, h6, h7]
        exact (by simp (disch := decide) only [Kp_put, put_none, hkc3])

/-! ### netlabref29.Check -/

theorem check29 {h : AH} {n : Net} {cv fv iv ov : Value} (r : NetR h n cv fv iv ov) (ok : NetOK n) :
    ACall Tryz.prog 21 [.agg (netC n cv fv iv ov).toArray] h (fun v h' => v = .int .i64 (netE n) ∧ h' = h) := by
  refine ACall.viewed rfl ?_
  replace r := r.view
  generalize AH.view h = h at r
  refine ACall.wf ⟨_, Tryz.func21, rfl, by kernel_rfl⟩ fun hwf => ?_
  refine ACall.of_wp 18 [.tmp 2] Tryz.func21 rfl (by kernel_rfl) rfl rfl fun a hn hd ha => ?_
  have hbox := boxA 27 h _ r.one
  have hN := NetAt.new (h := h) (n := n) (cv := cv) (fv := fv) (iv := iv) (ov := ov)
  have r1 := r.sub (Sub.new hwf (.row (netC n cv fv iv ov) 27 true))
  have w1 := hwf.new (.row (netC n cv fv iv ov) 27 true)
  simp (disch := first | omega | decide | (simp only [List.length_cons, List.length_nil] <;> omega)) only [push_cast, ↓reduceIte, Nat.reduceLT, Nat.reduceEqDiff, reduceCtorEq, Nat.reduceAdd, if_true, if_false, true_and, and_true, hn, hd, ha, hbox, faL foN0, faL foN1, faL foN2, faL foN3, faL foN4, hN.l0, hN.l1, hN.l2, hN.l3, hN.l4, hN.la]
  generalize h.new (.row (netC n cv fv iv ov) 27 true) = h1 at hN r1 w1 ⊢
  generalize h.next = B at hN ⊢
  refine ACall.mono ?_ (shape29 r1 ok)
  rintro _ h1 ⟨rfl, rfl⟩
  simp (disch := first | omega | decide | (simp only [List.length_cons, List.length_nil] <;> omega)) only [push_cast, ↓reduceIte, Nat.reduceLT, Nat.reduceEqDiff, reduceCtorEq, Nat.reduceAdd, if_true, if_false, true_and, and_true, hn, hd, ha]
  refine AW.drawP (.take 0 [10, 9, 8, 7, 6, 5, 4, 3, 2, 1] (.take 1 [10, 9, 8, 7, 6, 5, 4, 3, 2] (.take 2 [10, 9, 8, 7, 6, 5, 4, 3] (.take 3 [10, 9, 5, 4] (.take 6 [10, 9, 8, 7] (.watch 7 [10, 9, 8] (.watch 8 [10, 9] (.only 4 (.take 5 [10, 9] (.take 9 [10] (.take 10 [] .done))))))))))) [(0, 0), (0, 1), (0, 2), (0, 3), (0, 6), (1, 7), (1, 8), (2, 4), (0, 5), (0, 9), (0, 10)] mixed (by kernel_rfl) (by kernel_rfl) ?_
  by_cases e : shapeE n = 0
  · have s := ShapeOK.of e
    simp (disch := first | omega | decide | (simp only [List.length_cons, List.length_nil] <;> omega)) only [push_cast, ↓reduceIte, Nat.reduceLT, Nat.reduceEqDiff, reduceCtorEq, Nat.reduceAdd, if_true, if_false, true_and, and_true, hn, hd, ha, e, faL foN0, faL foN1, faL foN2, faL foN3, faL foN4, hN.l0, hN.l1, hN.l2, hN.l3, hN.l4, hN.la, r1.i.len Tryz.underlying24]
    refine ACall.mono ?_ (order29 r1 s)
    rintro rv h2 ⟨hg, O, ht, hst, hs⟩
    have hle := nodup_le ht.nodup ht.range
    have hN2 := hN.sub hg.sub
    simp (disch := first | omega | decide | (simp only [List.length_cons, List.length_nil] <;> omega)) only [push_cast, ↓reduceIte, Nat.reduceLT, Nat.reduceEqDiff, reduceCtorEq, Nat.reduceAdd, if_true, if_false, true_and, and_true, hn, hd, ha, e, faL foN0, faL foN1, faL foN2, faL foN3, faL foN4, hN2.l0, hN2.l1, hN2.l2, hN2.l3, hN2.l4, hN2.la, r1.i.len Tryz.underlying24, hs.lenA Tryz.underlying25]
    refine condV_of (fun hlt => ?_) (fun hge => ?_)
    · have hl : O.length < n.insts.length := by simpa using hlt
      simp (disch := first | omega | decide | (simp only [List.length_cons, List.length_nil] <;> omega)) only [push_cast, ↓reduceIte, Nat.reduceLT, Nat.reduceEqDiff, reduceCtorEq, Nat.reduceAdd, if_true, if_false, true_and, and_true, hn, hd, ha, netE, ne_eq, e, stuck_not_full hst ht hl, not_true_eq_false]
    · have hl : ¬ O.length < n.insts.length := by simpa using hge
      have hf : Full n := ⟨O, ht, by omega⟩
      simp (disch := first | omega | decide | (simp only [List.length_cons, List.length_nil] <;> omega)) only [push_cast, ↓reduceIte, Nat.reduceLT, Nat.reduceEqDiff, reduceCtorEq, Nat.reduceAdd, if_true, if_false, true_and, and_true, hn, hd, ha, netE, ne_eq, e, hf, not_true_eq_false]
  · simp (disch := first | omega | decide | (simp only [List.length_cons, List.length_nil] <;> omega)) only [push_cast, ↓reduceIte, Nat.reduceLT, Nat.reduceEqDiff, reduceCtorEq, Nat.reduceAdd, if_true, if_false, true_and, and_true, hn, hd, ha, e, faL foN0, faL foN1, faL foN2, faL foN3, faL foN4, hN.l0, hN.l1, hN.l2, hN.l3, hN.l4, hN.la, r1.i.len Tryz.underlying24]
    simp (disch := first | omega | decide | (simp only [List.length_cons, List.length_nil] <;> omega)) only [push_cast, ↓reduceIte, Nat.reduceLT, Nat.reduceEqDiff, reduceCtorEq, Nat.reduceAdd, if_true, if_false, true_and, and_true, hn, hd, ha, netE, ne_eq, e]

end Go.Ab.S1

namespace Go.Ab
open Go.ChangeShapes Go.WideShapes Go.ChangeAt Go.RowKit

/-- The heap of arguments grows. -/
structure GrA (W : World) (ρ : Ren) (h : AH) (ρ' : Ren) (h' : AH) : Prop where
  le : ρ.le ρ'
  hr : HR ρ' h' W
  ro : AllRO h'
  sub : Sub h h'

theorem GrA.refl {W : World} {ρ : Ren} {h : AH} (hr : HR ρ h W) (hro : AllRO h) : GrA W ρ h ρ h := ⟨Ren.le_refl _, hr, hro, fun _ _ x => x⟩
theorem GrA.trans {W : World} {ρ ρ1 ρ2 : Ren} {h h1 h2 : AH} (a : GrA W ρ h ρ1 h1) (b : GrA W ρ1 h1 ρ2 h2) : GrA W ρ h ρ2 h2 := ⟨Ren.le_trans a.le b.le, b.hr, b.ro, a.sub.trans b.sub⟩

/-- A name for a place, without an object. -/
theorem nameArg {ρ : Ren} {h : AH} {W : World} (hr : HR ρ h W) (hro : AllRO h) (blk off : Nat) : GrA W ρ h (ρ.put h.next ⟨blk, off, 0⟩) { next := h.next + 1, get := h.get } := by
  have hle : ρ.le (ρ.put h.next ⟨blk, off, 0⟩) := Ren.le_put hr.fresh
  refine ⟨hle, ⟨fun A o ha => ?_, fun A B o p r q h1 h2 _ _ _ how => ?_, fun A r hA => ?_⟩, hro, fun _ _ x => x⟩
  · obtain ⟨r, hq, hor⟩ := hr.obj A o ha
    exact ⟨r, hle _ _ hq, hor.move hle rfl⟩
  · rw [hro A o h1, hro B p h2] at how; simp at how
  · by_cases e : A = h.next
    · subst e; exact Nat.lt_succ_self _
    · rw [Ren.put_ne _ _ e] at hA; exact Nat.lt_succ_of_lt (hr.dom A r hA)

/-- A row of cells that may only be read. -/
theorem rowArg {ρ : Ren} {h : AH} {W : World} (hr : HR ρ h W) (hro : AllRO h) {blk off : Nat} {us : List Value} (hne : us ≠ []) (hone : ∀ u ∈ us, oneC u = true)
    (hc : ∀ (i : Nat) (u : Value), us[i]? = some u → ∃ v, W.cell? ⟨blk, off + i, none⟩ = some v ∧ VR ρ u v) : ∃ e, GrA W ρ h (ρ.put h.next ⟨blk, off, 0⟩) (h.new (.row us e false)) := by
  have hle : ρ.le (ρ.put h.next ⟨blk, off, 0⟩) := Ren.le_put hr.fresh
  have hlast : us.length - 1 < us.length := by
    have : us.length ≠ 0 := by simpa using hne
    omega
  have hblk : ∃ cc e fr, W.heap[blk]? = some (.cells cc e fr) ∧ ∀ (i : Nat) (u : Value), us[i]? = some u → ∃ v, cc[off + i]? = some v ∧ VR ρ u v := by
    obtain ⟨v, h1, _⟩ := hc _ _ (List.getElem?_eq_getElem hlast)
    unfold World.cell? at h1
    split at h1
    · rename_i cc e fr hh
      refine ⟨cc, e, fr, hh, fun i u hi => ?_⟩
      obtain ⟨v2, h2, h3⟩ := hc i u hi
      unfold World.cell? at h2
      rw [hh] at h2
      exact ⟨v2, by simpa using h2, h3⟩
    · cases h1
  obtain ⟨cc, e, fr, hh, hcc⟩ := hblk
  have hro' : AllRO (h.new (.row us e false)) := by
    intro A o ha
    rw [AH.new_get] at ha
    split at ha
    · cases ha; rfl
    · exact hro A o ha
  refine ⟨e, hle, ⟨fun A o ha => ?_, fun A B o p r q h1 h2 _ _ _ how => ?_, fun A r hA => ?_⟩, hro', Sub.new hr.wf _⟩
  · rw [AH.new_get] at ha
    split at ha
    · rename_i e'; cases ha; subst e'
      refine ⟨_, Ren.put_same _ _ _, cc, fr, hh, ?_, fun i u hi => ?_, (fun hw => by cases hw), hone⟩
      · obtain ⟨v, hv, _⟩ := hcc _ _ (List.getElem?_eq_getElem hlast)
        have := (Array.getElem?_eq_some_iff.1 hv).1
        simp only; omega
      · obtain ⟨v, hv, hr⟩ := hcc i u hi
        exact ⟨v, hv, hr.mono hle⟩
    · obtain ⟨r, hq, hor⟩ := hr.obj A o ha
      exact ⟨r, hle _ _ hq, hor.move hle rfl⟩
  · rw [hro' A o h1, hro' B p h2] at how; simp at how
  · by_cases e : A = h.next
    · subst e; simp
    · rw [Ren.put_ne _ _ e] at hA; have := hr.dom A r hA; simp; omega

section
variable {H : Type} {enc : TypeId × Value → H} {P : Program} {W : World} {base : Nat} {spare : Nat → Bool} {held : Bool}

/-- What cells hold, and how they are brought onto the abstract heap. -/
def Brings {α : Type} (W : World) (L : Lay α) (Good : α → Prop) (cs : List Value) (x : α) : Prop :=
  Good x ∧ ∀ ρ h, HR ρ h W → AllRO h → ∃ ρ' h' us, GrA W ρ h ρ' h' ∧ LR ρ' us cs ∧ L.rel h' us x

/-- Of a type, every trodden element. -/
def Opens (enc : TypeId × Value → H) (P : Program) (W : World) (base : Nat) (spare : Nat → Bool) (held : Bool) (e : TypeId) {α : Type} (L : Lay α) (Good : α → Prop) : Prop :=
  ∀ fuel cs y, DataW.trod enc P W base spare held fuel e cs = some y → (∀ n ∈ DataW.weights P e y.1, n ≤ reachBytes) → ∃ x : α, Brings W L Good cs x

theorem mem_weightsAll {e : TypeId} {n : Nat} : ∀ {l : List (DataW H)} {d : DataW H}, d ∈ l → n ∈ d.weights P e → n ∈ DataW.weightsAll P e l := by
  intro l
  induction l with
  | nil => intro d h; cases h
  | cons x l ih =>
    intro d hd hn
    rw [DataW.weightsAll]
    rcases List.mem_cons.1 hd with rfl | hd
    · exact List.mem_append_left _ hn
    · exact List.mem_append_right _ (ih hd hn)

theorem mem_weightsEach {n : Nat} : ∀ {ts : List TypeId} {l : List (DataW H)} {i : Nat} {t : TypeId} {d : DataW H}, ts[i]? = some t → l[i]? = some d → n ∈ d.weights P t → n ∈ DataW.weightsEach P ts l := by
  intro ts
  induction ts with
  | nil => intro l i t d h; simp at h
  | cons t0 ts ih =>
    intro l i t d ht hd hn
    cases l with
    | nil => simp at hd
    | cons d0 l =>
      rw [DataW.weightsEach]
      cases i with
      | zero => cases ht; cases hd; exact List.mem_append_left _ hn
      | succ i => exact List.mem_append_right _ (ih ht hd hn)

theorem spot_of_cells {a : Addr} {n : Nat} {cs : List Value} (hn : 0 < n) (h : W.cells? base a n = some cs) : a.spot = none := by
  obtain ⟨_, hl, hc⟩ := World.cells?_some h
  have h0 := hc 0 hn
  have : (a.add 0) = a := by simp [Addr.add]
  rw [this, List.getElem?_eq_getElem (by omega)] at h0
  unfold World.cell? at h0
  split at h0
  · split at h0
    · cases h0
    · rename_i hs; simpa using hs
  · cases h0

theorem openRow {t e : TypeId} {α : Type} {L : Lay α} {Good : α → Prop} (ht : P.underlying t = some (.slice e)) (hc : P.cellsOf e = L.sz) (ho : Opens enc P W base (fun _ => true) held e L Good) {fuel : Nat} {cs : List Value} {y : DataW H × List MemPlace}
    (hd : DataW.trod enc P W base (fun _ => true) held fuel t cs = some y) (hw : ∀ n ∈ DataW.weights P t y.1, n ≤ reachBytes) :
    ∃ (v : Value) (xs : List α), cs = [v] ∧ (∀ x ∈ xs, Good x) ∧ xs.length * P.bytesOf e ≤ reachBytes ∧ ∀ ρ h, HR ρ h W → AllRO h → ∃ ρ' h' u, GrA W ρ h ρ' h' ∧ VR ρ' u v ∧ RowOf L h' u xs := by
  have hsz := L.pos
  rcases DataW.trod_slice ht hd with ⟨rfl, rfl⟩ | ⟨a, len, cap, elems, rest, m, _, rfl, rfl, hb, hlc, hcm, hlen, hel, hsp, _⟩
  · exact ⟨_, [], rfl, fun x h => (nomatch h), by simp [reachBytes], fun ρ h hr hro => ⟨ρ, h, .slice none 0 0, GrA.refl hr hro, .nilSlice _ _, none, 0, 0, rfl, rfl, ⟨fun q e => (nomatch e), Nat.le_refl _, .inl (by unfold SL; omega)⟩, .inl rfl⟩⟩
  have hwe : DataW.weights P t (.slice (elems.map (·.1)) (rest.map (·.1))) = (elems.length + rest.length) * P.bytesOf e :: (DataW.weightsAll P e (elems.map (·.1)) ++ DataW.weightsAll P e (rest.map (·.1))) := by
    rw [DataW.weights, ht]; simp
  rw [hwe] at hw
  have hbytes := hw _ (List.mem_cons_self ..)
  have hml : maxLen = 9223372036854775807 := rfl
  have each : ∀ i, i < len → ∃ csi x, W.cells? base (a.add (i * L.sz)) L.sz = some csi ∧ Brings W L Good csi x := by
    intro i hi
    have h1 := hel i hi
    rw [hc, List.getElem?_eq_getElem (by omega), Option.bind_eq_some_iff] at h1
    obtain ⟨csi, hcs, hy⟩ := h1
    obtain ⟨x, hx⟩ := ho _ _ _ hy (fun n hn => hw n (List.mem_cons_of_mem _ (List.mem_append_left _ (mem_weightsAll (List.mem_map.2 ⟨_, List.getElem_mem _, rfl⟩) hn))))
    exact ⟨csi, x, hcs, hx⟩
  have all : ∀ k, k ≤ len → ∃ xs : List α, xs.length = k ∧ ∀ i x, xs[i]? = some x → ∃ csi, W.cells? base (a.add (i * L.sz)) L.sz = some csi ∧ Brings W L Good csi x := by
    intro k
    induction k with
    | zero => intro _; exact ⟨[], rfl, fun i x h => by simp at h⟩
    | succ k ih =>
      intro hk
      obtain ⟨xs, hx, hall⟩ := ih (by omega)
      obtain ⟨csi, x, h1, h2⟩ := each k (by omega)
      refine ⟨xs ++ [x], by simp [hx], fun i z hz => ?_⟩
      by_cases hi : i < xs.length
      · rw [List.getElem?_append_left hi] at hz; exact hall i z hz
      · rw [List.getElem?_append_right (by omega)] at hz
        have hi0 : i = k := by
          have := (List.getElem?_eq_some_iff.1 hz).1
          simp at this; omega
        subst hi0
        rw [hx, Nat.sub_self] at hz
        cases hz
        exact ⟨csi, h1, h2⟩
  obtain ⟨xs, hxl, hall⟩ := all len (Nat.le_refl _)
  have hgood : ∀ x ∈ xs, Good x := by
    intro x hx
    obtain ⟨i, hi, e⟩ := List.getElem_of_mem hx
    obtain ⟨csi, _, h2⟩ := hall i x (by rw [List.getElem?_eq_getElem hi, e])
    exact h2.1
  refine ⟨_, xs, rfl, hgood, ?_, fun ρ h hr hro => ?_⟩
  · rw [hxl, ← hlen]
    exact Nat.le_trans (Nat.mul_le_mul_right _ (Nat.le_add_right _ _)) hbytes
  by_cases h0 : len = 0
  · subst h0
    have hx0 : xs = [] := List.eq_nil_of_length_eq_zero hxl
    subst hx0
    by_cases hcap : cap = 0
    · subst hcap
      exact ⟨ρ, h, .slice (some ⟨0, 0, none⟩) 0 0, GrA.refl hr hro, .slip, _, 0, 0, rfl, rfl, ⟨fun q e => by cases e; rfl, Nat.le_refl _, .inl (by unfold SL; omega)⟩, .inl rfl⟩
    · have hspot : a.spot = none := by
        obtain ⟨hrl, hrest⟩ := hsp rfl
        have h1 := hrest 0 (by omega)
        rw [hc, List.getElem?_eq_getElem (by omega), Option.bind_eq_some_iff] at h1
        obtain ⟨csi, hcs, _⟩ := h1
        have := spot_of_cells hsz hcs
        simpa [Addr.add] using this
      obtain ⟨blk, off, sp⟩ := a
      simp only at hspot; subst hspot
      have hg := nameArg hr hro blk off
      refine ⟨_, _, .slice (some ⟨h.next, 0, none⟩) 0 cap, hg, ?_, _, 0, cap, rfl, rfl, ⟨fun q e => by cases e; rfl, Nat.zero_le _, .inl (by unfold SL; omega)⟩, .inl rfl⟩
      have := VR.slice (ρ := ρ.put h.next ⟨blk, off, 0⟩) (A := h.next) (off := 0) (l := 0) (c := cap) (Ren.put_same _ _ _) (by unfold SL; omega)
      simpa using this
  · have hspot : a.spot = none := by
      obtain ⟨csi, x, hcs, _⟩ := each 0 (by omega)
      have := spot_of_cells hsz hcs
      simpa [Addr.add] using this
    obtain ⟨blk, off, sp⟩ := a
    simp only at hspot; subst hspot
    have build : ∀ k, k ≤ len → ∃ (ρ' : Ren) (h' : AH) (us : List Value), GrA W ρ h ρ' h' ∧ us.length = k * L.sz ∧ (∀ (i : Nat) (u : Value), us[i]? = some u → ∃ v, W.cell? ⟨blk, off + i, none⟩ = some v ∧ VR ρ' u v) ∧
        (∀ (i : Nat) (x : α), i < k → xs[i]? = some x → L.rel h' ((us.drop (i * L.sz)).take L.sz) x) ∧ ∀ u ∈ us, oneC u = true := by
      intro k
      induction k with
      | zero => intro _; exact ⟨ρ, h, [], GrA.refl hr hro, by simp, fun i u hu => by simp at hu, fun i x hi => by omega, fun u hu => by cases hu⟩
      | succ k ih =>
        intro hk
        obtain ⟨ρ1, h1, us, g1, hul, hcell, hrel, hone⟩ := ih (by omega)
        have hxk : xs[k]? = some xs[k] := List.getElem?_eq_getElem (by omega)
        obtain ⟨csi, hcs, _, hbr⟩ := hall k _ hxk
        obtain ⟨ρ2, h2, vs, g2, hlr, hr2⟩ := hbr ρ1 h1 g1.hr g1.ro
        obtain ⟨_, hcl, hcc⟩ := World.cells?_some hcs
        have hvl := L.len hr2
        refine ⟨ρ2, h2, us ++ vs, g1.trans g2, by rw [List.length_append, hul, hvl, Nat.succ_mul], fun i u hu => ?_, fun i x hi hx => ?_, fun u hu => ?_⟩
        · by_cases hi : i < us.length
          · rw [List.getElem?_append_left hi] at hu
            obtain ⟨v, hv, hvr⟩ := hcell i u hu
            exact ⟨v, hv, hvr.mono g2.le⟩
          · rw [List.getElem?_append_right (by omega)] at hu
            obtain ⟨v, hv, hvr⟩ := hlr.get hu
            have hj : i - us.length < L.sz := by
              have := (List.getElem?_eq_some_iff.1 hu).1; omega
            have := hcc _ hj
            rw [hv] at this
            refine ⟨v, ?_, hvr⟩
            rw [← this]
            congr 1
            have e1 : (⟨blk, off, none⟩ : Addr).add (k * L.sz) = ⟨blk, off + k * L.sz, none⟩ := add_eq _ _ _
            rw [e1, add_eq]
            congr 1; omega
        · by_cases hik : i < k
          · have hle : i * L.sz + L.sz ≤ k * L.sz := by rw [← Nat.succ_mul]; exact Nat.mul_le_mul_right _ hik
            rw [List.drop_append_of_le_length (by omega), List.take_append_of_le_length (by rw [List.length_drop]; omega)]
            exact L.mono g2.sub (hrel i x hik hx)
          · have hik' : i = k := by omega
            subst hik'
            rw [hxk] at hx; cases hx
            rw [← hul, List.drop_left, ← hvl, List.take_length]
            exact hr2
        · rcases List.mem_append.1 hu with hu | hu
          · exact hone u hu
          · exact L.one hr2 u hu
    obtain ⟨ρ1, h1, us, g1, hul, hcell, hrel, hone⟩ := build len (Nat.le_refl _)
    have hus : us ≠ [] := by
      intro e; rw [e] at hul
      have : 0 < len * L.sz := Nat.mul_pos (by omega) hsz
      simp at hul; omega
    obtain ⟨e', g2⟩ := rowArg g1.hr g1.ro hus hone hcell
    refine ⟨_, _, .slice (some ⟨h1.next, 0, none⟩) len cap, g1.trans g2, ?_, _, len, cap, rfl, hxl.symm, ⟨fun q e => by cases e; rfl, hlc, .inl (by unfold SL; omega)⟩, .inr ⟨h1.next, 0, .row us e' false, us, rfl, by rw [AH.new_get, if_pos rfl], rfl, fun i x hx => ?_⟩⟩
    · have := VR.slice (ρ := ρ1.put h1.next ⟨blk, off, 0⟩) (A := h1.next) (off := 0) (l := len) (c := cap) (Ren.put_same _ _ _) (by unfold SL; omega)
      simpa using this
    · rw [Nat.zero_add]
      exact L.mono g2.sub (hrel i x (by have := (List.getElem?_eq_some_iff.1 hx).1; omega) hx)

/-- Integers of a kind. -/
def intL (k : IntKind) : Lay Int where
  sz := 1
  pos := by decide
  rel h cs z := cs = [.int k z]
  mono := by rintro h h' cs x hs rfl; rfl
  view := by rintro h cs x rfl; rfl
  len := by rintro h cs x rfl; rfl
  one := by rintro h cs x rfl v hv; simp only [List.mem_cons, List.not_mem_nil, or_false] at hv; subst hv; rfl

theorem openInt {t : TypeId} {k : IntKind} (ht : P.underlying t = some (.int k)) : Opens enc P W base spare held t (intL k) (fun z => (Lit.int k z).wf = true) := by
  intro fuel cs y hd _
  obtain ⟨n, rfl, _, hwf⟩ := DataW.trod_int ht hd
  exact ⟨n, hwf, fun ρ h hr hro => ⟨ρ, h, _, GrA.refl hr hro, LR.single (.int _ _), rfl⟩⟩

theorem RowOf.ints {k : IntKind} {h : AH} {v : Value} {zs : List Int} (hr : RowOf (intL k) h v zs) : SlOf h v (zs.map (.int k)) := by
  obtain ⟨p, l, c, rfl, hl, ⟨hsp, _⟩, hcs⟩ := hr
  refine ⟨p, l, c, rfl, by rw [List.length_map]; exact hl, hsp, ?_⟩
  rcases hcs with rfl | ⟨A, off, o, cs, rfl, hg, hc, hx⟩
  · exact .inl rfl
  · refine .inr ⟨A, off, o, cs, rfl, hg, hc, fun i x hi => ?_⟩
    rw [List.getElem?_map, Option.map_eq_some_iff] at hi
    obtain ⟨z, hz, rfl⟩ := hi
    have : (cs.drop (off + i * 1)).take 1 = [.int k z] := hx i z hz
    have h1 := congrArg (·[0]?) this
    simp [List.getElem?_take] at h1
    exact h1

end
end Go.Ab

namespace Go.Ab.S1
open Go.Proofs
open Go.ChangeShapes Go.WideShapes Go.ChangeAt Go.RowKit

theorem five {α : Type} {cs : List α} (h : cs.length = 5) : ∃ a b c d e, cs = [a, b, c, d, e] := by
  match cs, h with
  | [a, b, c, d, e], _ => exact ⟨a, b, c, d, e, rfl⟩
theorem two {α : Type} {cs : List α} (h : cs.length = 2) : ∃ a b, cs = [a, b] := by
  match cs, h with
  | [a, b], _ => exact ⟨a, b, rfl⟩

section
variable {H : Type} {enc : TypeId × Value → H} {W : World} {base : Nat} {held : Bool}

theorem co9 : Tryz.prog.cellsOf 9 = 1 := by kernel_rfl
theorem co3 : Tryz.prog.cellsOf 3 = 1 := by kernel_rfl
theorem co2 : Tryz.prog.cellsOf 2 = 1 := by kernel_rfl
theorem co5 : Tryz.prog.cellsOf 5 = 1 := by kernel_rfl
theorem coU : Tryz.prog.cellsOf 37 = 1 := by kernel_rfl
theorem coL : Tryz.prog.cellsOf 38 = 1 := by kernel_rfl
theorem coI : Tryz.prog.cellsOf 25 = 1 := by kernel_rfl
theorem coCs : Tryz.prog.cellsOf 22 = 1 := by kernel_rfl
theorem coFs : Tryz.prog.cellsOf 23 = 1 := by kernel_rfl
theorem coIs : Tryz.prog.cellsOf 24 = 1 := by kernel_rfl
theorem coC : Tryz.prog.cellsOf 40 = 5 := by kernel_rfl
theorem coF : Tryz.prog.cellsOf 65 = 2 := by kernel_rfl
theorem coN : Tryz.prog.cellsOf 36 = 2 := by kernel_rfl
theorem coNet : Tryz.prog.cellsOf 27 = 5 := by kernel_rfl
theorem bo3 : Tryz.prog.bytesOf 3 = 8 := by kernel_rfl
theorem bo2 : Tryz.prog.bytesOf 2 = 8 := by kernel_rfl
theorem boC : Tryz.prog.bytesOf 40 = 64 := by kernel_rfl
theorem boF : Tryz.prog.bytesOf 65 = 16 := by kernel_rfl
theorem boN : Tryz.prog.bytesOf 36 = 32 := by kernel_rfl

theorem openCell : Opens enc Tryz.prog W base (fun _ => true) held 40 cellL CellOK := by
  intro fuel cs y hd hw
  obtain ⟨xs, m, _, rfl, hlen, hxl, hf⟩ := DataW.trod_struct Tryz.underlying40 hd
  rw [coC] at hlen
  obtain ⟨a, b, c, d, e, rfl⟩ := five hlen
  have hx : ∀ i, i < 5 → ∃ x, xs[i]? = some x := fun i hi => ⟨xs[i]'(by rw [hxl]; exact hi), List.getElem?_eq_getElem _⟩
  obtain ⟨x0, e0⟩ := hx 0 (by decide)
  obtain ⟨x1, e1⟩ := hx 1 (by decide)
  obtain ⟨x2, e2⟩ := hx 2 (by decide)
  obtain ⟨x3, e3⟩ := hx 3 (by decide)
  obtain ⟨x4, e4⟩ := hx 4 (by decide)
  have f0 := (hf 0 _ rfl).trans e0
  have f1 := (hf 1 _ rfl).trans e1
  have f2 := (hf 2 _ rfl).trans e2
  have f3 := (hf 3 _ rfl).trans e3
  have f4 := (hf 4 _ rfl).trans e4
  simp only [List.getElem_toArray, List.getElem_cons_zero, List.getElem_cons_succ] at f0 f1 f2 f3 f4
  simp only [co9, co3, coU, co2, coL, List.drop_zero, List.drop_succ_cons, List.take_succ_cons, List.take_zero] at f0 f1 f2 f3 f4
  obtain ⟨s, h0, _⟩ := DataW.trod_string Tryz.underlying9 f0
  obtain ⟨n1, h1, _⟩ := DataW.trod_int Tryz.underlying3 f1
  obtain ⟨n2, h2, _, wf2⟩ := DataW.trod_int Tryz.underlying37 f2
  obtain ⟨n3, h3, _⟩ := DataW.trod_int Tryz.underlying2 f3
  cases h0; cases h1; cases h2; cases h3
  have hwe : DataW.weights Tryz.prog 40 (.agg (xs.map (·.1))) = DataW.weightsEach Tryz.prog [9, 3, 37, 2, 38] (xs.map (·.1)) := by
    rw [DataW.weights, Tryz.underlying40]; rfl
  obtain ⟨v, zs, hv, hz, hb, hbr⟩ := openRow (L := intL .i64) Tryz.underlying38 co2 (openInt Tryz.underlying2) f4 (fun n hn => hw n (by
    rw [hwe]; exact mem_weightsEach (i := 4) (t := 38) (d := x4.1) rfl (by rw [List.getElem?_map, e4]; rfl) hn))
  cases hv
  rw [bo2] at hb
  have hwf2 : 0 ≤ n2 ∧ n2 < 18446744073709551616 := by
    simp [Lit.wf, IntKind.min, IntKind.max, IntKind.signed, IntKind.bits] at wf2
    omega
  refine ⟨⟨s, n1, n2, n3, zs⟩, ⟨hwf2.1, hwf2.2, by simp only [reachBytes] at hb; show zs.length ≤ _; omega⟩, fun ρ h hr hro => ?_⟩
  obtain ⟨ρ', h', u, g, hvr, hrow⟩ := hbr ρ h hr hro
  exact ⟨ρ', h', [.string s, .int .i64 n1, .int .u64 n2, .int .i64 n3, u], g, (LR.single hvr).cons (.int _ _) |>.cons (.int _ _) |>.cons (.int _ _) |>.cons (.string _), u, rfl, hrow.ints⟩

theorem openInst : Opens enc Tryz.prog W base (fun _ => true) held 36 instL (fun x => x.pins.length ≤ 4611686018427387904) := by
  intro fuel cs y hd hw
  obtain ⟨xs, m, _, rfl, hlen, hxl, hf⟩ := DataW.trod_struct Tryz.underlying36 hd
  rw [coN] at hlen
  obtain ⟨a, b, rfl⟩ := two hlen
  have hx : ∀ i, i < 2 → ∃ x, xs[i]? = some x := fun i hi => ⟨xs[i]'(by rw [hxl]; exact hi), List.getElem?_eq_getElem _⟩
  obtain ⟨x0, e0⟩ := hx 0 (by decide)
  obtain ⟨x1, e1⟩ := hx 1 (by decide)
  have f0 := (hf 0 _ rfl).trans e0
  have f1 := (hf 1 _ rfl).trans e1
  simp only [List.getElem_toArray, List.getElem_cons_zero, List.getElem_cons_succ] at f0 f1
  simp only [co3, coI, List.drop_zero, List.drop_succ_cons, List.take_succ_cons, List.take_zero] at f0 f1
  obtain ⟨n1, h1, _⟩ := DataW.trod_int Tryz.underlying3 f0
  cases h1
  have hwe : DataW.weights Tryz.prog 36 (.agg (xs.map (·.1))) = DataW.weightsEach Tryz.prog [3, 25] (xs.map (·.1)) := by
    rw [DataW.weights, Tryz.underlying36]; rfl
  obtain ⟨v, zs, hv, hz, hb, hbr⟩ := openRow (L := intL .i64) Tryz.underlying25 co3 (openInt Tryz.underlying3) f1 (fun n hn => hw n (by
    rw [hwe]; exact mem_weightsEach (i := 1) (t := 25) (d := x1.1) rfl (by rw [List.getElem?_map, e1]; rfl) hn))
  cases hv
  rw [bo3] at hb
  refine ⟨⟨n1, zs⟩, by simp only [reachBytes] at hb; show zs.length ≤ _; omega, fun ρ h hr hro => ?_⟩
  obtain ⟨ρ', h', u, g, hvr, hrow⟩ := hbr ρ h hr hro
  exact ⟨ρ', h', [.int .i64 n1, u], g, (LR.single hvr).cons (.int _ _), u, rfl, hrow.ints⟩

theorem openFlop : Opens enc Tryz.prog W base (fun _ => true) held 65 flopL (fun _ => True) := by
  intro fuel cs y hd hw
  obtain ⟨xs, m, _, rfl, hlen, hxl, hf⟩ := DataW.trod_struct Tryz.underlying65 hd
  rw [coF] at hlen
  obtain ⟨a, b, rfl⟩ := two hlen
  have hx : ∀ i, i < 2 → ∃ x, xs[i]? = some x := fun i hi => ⟨xs[i]'(by rw [hxl]; exact hi), List.getElem?_eq_getElem _⟩
  obtain ⟨x0, e0⟩ := hx 0 (by decide)
  obtain ⟨x1, e1⟩ := hx 1 (by decide)
  have f0 := (hf 0 _ rfl).trans e0
  have f1 := (hf 1 _ rfl).trans e1
  simp only [List.getElem_toArray, List.getElem_cons_zero, List.getElem_cons_succ] at f0 f1
  simp only [co3, co5, List.drop_zero, List.drop_succ_cons, List.take_succ_cons, List.take_zero] at f0 f1
  obtain ⟨n1, h1, _⟩ := DataW.trod_int Tryz.underlying3 f0
  obtain ⟨n2, h2, _⟩ := DataW.trod_int Tryz.underlying5 f1
  cases h1; cases h2
  exact ⟨⟨n1, n2⟩, trivial, fun ρ h hr hro => ⟨ρ, h, [.int .i64 n1, .int .u8 n2], GrA.refl hr hro, (LR.single (.int _ _)).cons (.int _ _), rfl⟩⟩

theorem openNet {v : Value} {d : DataW H} {ps : List MemPlace} (hagg : ∃ cs, v = .agg cs) (hd : DataW.Trod enc Tryz.prog W base (fun _ => true) held 27 v d ps) (hw : ∀ n ∈ DataW.weights Tryz.prog 27 d, n ≤ reachBytes) :
    ∃ n : Net, NetOK n ∧ n.cells.length ≤ 4611686018427387904 ∧ ∀ ρ h, HR ρ h W → AllRO h → ∃ ρ' h' cv fv iv ov, GrA W ρ h ρ' h' ∧ VR ρ' (.agg (netC n cv fv iv ov).toArray) v ∧ NetR h' n cv fv iv ov := by
  obtain ⟨cs, rfl⟩ := hagg
  obtain ⟨fuel, hd⟩ := hd
  have hcs : (Value.agg cs).cells.toList = cs.toList := rfl
  rw [hcs] at hd
  obtain ⟨xs, m, _, hy, hlen, hxl, hf⟩ := DataW.trod_struct Tryz.underlying27 hd
  cases hy
  rw [coNet] at hlen
  obtain ⟨a, b, c, e, f, hl⟩ := five hlen
  rw [hl] at hf
  have hx : ∀ i, i < 5 → ∃ x, xs[i]? = some x := fun i hi => ⟨xs[i]'(by rw [hxl]; exact hi), List.getElem?_eq_getElem _⟩
  obtain ⟨x0, e0⟩ := hx 0 (by decide)
  obtain ⟨x1, e1⟩ := hx 1 (by decide)
  obtain ⟨x2, e2⟩ := hx 2 (by decide)
  obtain ⟨x3, e3⟩ := hx 3 (by decide)
  obtain ⟨x4, e4⟩ := hx 4 (by decide)
  have f0 := (hf 0 _ rfl).trans e0
  have f1 := (hf 1 _ rfl).trans e1
  have f2 := (hf 2 _ rfl).trans e2
  have f3 := (hf 3 _ rfl).trans e3
  have f4 := (hf 4 _ rfl).trans e4
  simp only [List.getElem_toArray, List.getElem_cons_zero, List.getElem_cons_succ] at f0 f1 f2 f3 f4
  simp only [coCs, co3, coFs, coIs, coI, List.drop_zero, List.drop_succ_cons, List.take_succ_cons, List.take_zero] at f0 f1 f2 f3 f4
  have hwe : DataW.weights Tryz.prog 27 (.agg (xs.map (·.1))) = DataW.weightsEach Tryz.prog [22, 3, 23, 24, 25] (xs.map (·.1)) := by
    rw [DataW.weights, Tryz.underlying27]; rfl
  rw [hwe] at hw
  obtain ⟨n1, h1, _⟩ := DataW.trod_int Tryz.underlying3 f1
  obtain ⟨v0, l0, hv0, good0, hb0, br0⟩ := openRow Tryz.underlying22 coC openCell f0 (fun n hn => hw n (mem_weightsEach (i := 0) (t := 22) (d := x0.1) rfl (by rw [List.getElem?_map, e0]; rfl) hn))
  obtain ⟨v2, l2, hv2, good2, hb2, br2⟩ := openRow Tryz.underlying23 coF openFlop f2 (fun n hn => hw n (mem_weightsEach (i := 2) (t := 23) (d := x2.1) rfl (by rw [List.getElem?_map, e2]; rfl) hn))
  obtain ⟨v3, l3, hv3, good3, hb3, br3⟩ := openRow Tryz.underlying24 coN openInst f3 (fun n hn => hw n (mem_weightsEach (i := 3) (t := 24) (d := x3.1) rfl (by rw [List.getElem?_map, e3]; rfl) hn))
  obtain ⟨v4, l4, hv4, good4, hb4, br4⟩ := openRow (L := intL .i64) Tryz.underlying25 co3 (openInt Tryz.underlying3) f4 (fun n hn => hw n (mem_weightsEach (i := 4) (t := 25) (d := x4.1) rfl (by rw [List.getElem?_map, e4]; rfl) hn))
  cases h1; cases hv0; cases hv2; cases hv3; cases hv4
  rw [boC] at hb0
  rw [boF] at hb2
  rw [boN] at hb3
  rw [bo3] at hb4
  simp only [reachBytes] at hb0 hb2 hb3 hb4
  refine ⟨⟨l0, n1, l2, l3, l4⟩, ⟨good0, good3, ?_, ?_, ?_⟩, ?_, fun ρ h hr hro => ?_⟩
  · show l2.length ≤ _; omega
  · show l3.length ≤ _; omega
  · show l4.length ≤ _; omega
  · show l0.length ≤ _; omega
  obtain ⟨ρ0, k0, u0, g0, vr0, r0⟩ := br0 ρ h hr hro
  obtain ⟨ρ2, k2, u2, g2, vr2, r2⟩ := br2 ρ0 k0 g0.hr g0.ro
  obtain ⟨ρ3, k3, u3, g3, vr3, r3⟩ := br3 ρ2 k2 g2.hr g2.ro
  obtain ⟨ρ4, k4, u4, g4, vr4, r4⟩ := br4 ρ3 k3 g3.hr g3.ro
  refine ⟨ρ4, k4, u0, u2, u3, u4, ((g0.trans g2).trans g3).trans g4, ?_, ⟨((r0.sub g2.sub).sub g3.sub).sub g4.sub, (r2.sub g3.sub).sub g4.sub, r3.sub g4.sub, r4.ints⟩⟩
  have hl' : cs = [a, .int .i64 n1, c, e, f].toArray := by rw [← hl]
  rw [hl']
  exact LR.toAgg ((LR.single vr4).cons (vr3.mono g4.le) |>.cons ((vr2.mono g3.le).mono g4.le) |>.cons (.int _ _) |>.cons (((vr0.mono g2.le).mono g3.le).mono g4.le))

/-- A slice of ints, as an argument. -/
theorem openInts {v : Value} {d : DataW H} {ps : List MemPlace} (hone : v.cells.toList = [v]) (hd : DataW.Trod enc Tryz.prog W base (fun _ => true) held 25 v d ps) (hw : ∀ n ∈ DataW.weights Tryz.prog 25 d, n ≤ reachBytes) :
    ∃ zs : List Int, zs.length ≤ 17592186043904 ∧ ∀ ρ h, HR ρ h W → AllRO h → ∃ ρ' h' u, GrA W ρ h ρ' h' ∧ VR ρ' u v ∧ SlOf h' u (zs.map (.int .i64)) := by
  obtain ⟨fuel, hd⟩ := hd
  obtain ⟨v', zs, hv, _, hb, br⟩ := openRow (L := intL .i64) Tryz.underlying25 co3 (openInt Tryz.underlying3) hd hw
  rw [hone] at hv
  cases hv
  rw [bo3] at hb
  simp only [reachBytes] at hb
  refine ⟨zs, by omega, fun ρ h hr hro => ?_⟩
  obtain ⟨ρ', h', u, g, vr, r⟩ := br ρ h hr hro
  exact ⟨ρ', h', u, g, vr, r.ints⟩
end

end Go.Ab.S1

namespace Go.Ab.S1
open Go.Proofs

theorem shiftE_eq {n : Net} (s : ShapeOK n) {p : Int} (h : -2 ≤ p ∧ p < firstE n + n.insts.length) : shiftE n p = if p ≥ n.inputs then p + 2 else p := by
  have h1 := s.i0; have h2 := s.i1; have h3 := s.fl; have h4 := s.il
  unfold shiftE
  by_cases hp : p ≥ n.inputs
  · rw [if_pos hp, if_pos hp]; exact wrapI (by unfold firstE at h; omega) (by unfold firstE at h; omega)
  · rw [if_neg hp, if_neg hp]

theorem shiftE_range {n : Net} (s : ShapeOK n) {p : Int} (h : -2 ≤ p ∧ p < firstE n + n.insts.length) : -2 ≤ shiftE n p ∧ shiftE n p < firstE n + 2 + n.insts.length := by
  rw [shiftE_eq s h]; split <;> omega

theorem shiftE_first {n : Net} (s : ShapeOK n) {p : Int} (h : -2 ≤ p ∧ p < firstE n + n.insts.length) : (firstE n + 2 ≤ shiftE n p ↔ firstE n ≤ p) ∧ (firstE n ≤ p → shiftE n p = p + 2) := by
  have h1 : n.inputs ≤ firstE n := by unfold firstE; omega
  rw [shiftE_eq s h]
  constructor
  · split <;> omega
  · intro hp; rw [if_pos (by omega)]

/-- What the steps have made, L of them. -/
structure InsK (n : Net) (L : Nat) (s : Int × Net) : Prop where
  inputs : s.2.inputs = n.inputs + 2
  cells : s.2.cells = n.cells
  outs : s.2.outs = n.outs.map (shiftE n)
  fl : s.2.flops.length = n.flops.length
  il : s.2.insts.length = n.insts.length + L
  before : n.inputs + 1 ≤ s.1 ∧ s.1 < n.inputs + 2 + n.flops.length
  init : s.2.flops.map (·.init) = n.flops.map (·.init)
  next : ∀ x ∈ s.2.flops, -2 ≤ x.next ∧ x.next < n.inputs + 2 + n.flops.length + n.insts.length + L
  old : s.2.insts.take n.insts.length = n.insts.map (instS n)
  new : ∀ x ∈ s.2.insts.drop n.insts.length, x.cell = (pick3 n).1 ∧ x.pins.length = 3 ∧ ∀ p ∈ x.pins, -2 ≤ p ∧ p < n.inputs + 2 + n.flops.length + n.insts.length

theorem InsK.start {n : Net} (s : ShapeOK n) : InsK n 0 (n.inputs + 1, insBase n) := by
  refine ⟨rfl, rfl, rfl, rfl, by simp [insBase], ⟨Int.le_refl _, by simp only; omega⟩, rfl, fun x hx => ?_, ?_, fun x hx => ?_⟩
  · have := s.flop x hx
    unfold firstE at this; omega
  · show (n.insts.map (instS n)).take n.insts.length = _
    rw [List.take_of_length_le (by simp)]
  · rw [List.drop_of_length_le (by simp [insBase])] at hx; cases hx

theorem map_set {α β : Type} {f : α → β} : ∀ {l : List α} {i : Nat} {x : α}, (∀ y, l[i]? = some y → f x = f y) → (l.set i x).map f = l.map f := by
  intro l i x h
  apply List.ext_getElem?
  intro j
  rw [List.getElem?_map, List.getElem?_map]
  by_cases hj : j = i
  · subst hj
    cases hl : l[j]? with
    | none =>
      have : l.length ≤ j := List.getElem?_eq_none_iff.1 hl
      rw [List.getElem?_eq_none (by simpa using this)]
    | some y =>
      have hlt := (List.getElem?_eq_some_iff.1 hl).1
      rw [List.getElem?_set_self hlt, Option.map_some, Option.map_some, h y hl]
  · rw [List.getElem?_set_ne (fun e => hj e.symm)]

theorem InsK.step {n : Net} (s : ShapeOK n) {L : Nat} {t : Int × Net} (k : InsK n L t) {i : Int} (hi : 0 ≤ i ∧ i < n.flops.length) (hp3 : (pick3 n).2.length = 3) (hpz : ∀ z ∈ (pick3 n).2, 0 ≤ z ∧ z < 3) : InsK n (L + 1) (insStep n t i) := by
  have hlt : i.toNat < n.flops.length := by omega
  have hfm : n.flops.getD i.toNat default ∈ n.flops := getD_mem hlt default
  have hnx := (s.flop _ hfm).1
  have hsr := shiftE_range s hnx
  have hi0 := s.i0
  refine ⟨k.inputs, k.cells, k.outs, by rw [insStep_flops]; exact k.fl, by simp [insStep, k.il]; omega, ⟨by simp only [insStep]; omega, by simp only [insStep]; omega⟩, ?_, fun x hx => ?_, ?_, fun x hx => ?_⟩
  · rw [← k.init]
    show (t.2.flops.set i.toNat (insFlop n t.2 i)).map _ = _
    refine map_set (f := fun x : Flop => x.init) fun y hy => ?_
    show (t.2.flops.getD i.toNat default).init = y.init
    rw [List.getD_eq_getElem?_getD, hy]; rfl
  · rcases List.mem_or_eq_of_mem_set hx with hx | rfl
    · have := k.next x hx; omega
    · simp only [insFlop, k.fl, k.il]; omega
  · show (t.2.insts ++ [insInst n t i]).take _ = _
    rw [List.take_append_of_le_length (by rw [k.il]; omega)]; exact k.old
  · have hx : x ∈ (t.2.insts ++ [insInst n t i]).drop n.insts.length := hx
    rw [List.drop_append_of_le_length (by rw [k.il]; omega)] at hx
    rcases List.mem_append.1 hx with hx | hx
    · exact k.new x hx
    · rw [List.mem_singleton] at hx
      subst hx
      refine ⟨rfl, by simp [insInst, hp3], fun p hp => ?_⟩
      obtain ⟨z, hz, rfl⟩ := List.mem_map.1 hp
      have hb := k.before
      unfold firstE at hsr
      obtain ⟨z0, z3⟩ := hpz z hz
      rcases (show z = 0 ∨ z = 1 ∨ z = 2 by omega) with rfl | rfl | rfl
      · show -2 ≤ shiftE n _ ∧ shiftE n _ < _; omega
      · show -2 ≤ t.1 ∧ t.1 < _; omega
      · show -2 ≤ n.inputs ∧ n.inputs < _; omega

theorem InsK.go {n : Net} (s : ShapeOK n) (hp3 : (pick3 n).2.length = 3) (hpz : ∀ z ∈ (pick3 n).2, 0 ≤ z ∧ z < 3) : ∀ (ord : List Int) {L : Nat} {t : Int × Net}, InsK n L t → (∀ z ∈ ord, 0 ≤ z ∧ z < n.flops.length) → InsK n (L + ord.length) (ord.foldl (insStep n) t) := by
  intro ord
  induction ord with
  | nil => intro L t k _; exact k
  | cons i is ih =>
    intro L t k hz
    rw [List.foldl_cons, List.length_cons]
    have := ih (k.step s (hz i (List.mem_cons_self ..)) hp3 hpz) (fun z hm => hz z (List.mem_cons_of_mem _ hm))
    rw [show L + (is.length + 1) = L + 1 + is.length by omega]; exact this

/-- What a successful insertion tells. -/
structure InsOK (n : Net) (ord : List Int) : Prop where
  net : netE n = 0
  perm : IsPerm ord
  len : ord.length = n.flops.length
  found : matchGo 202 3 0 n.cells ≠ []
  i2 : n.inputs + 2 ≤ 64
  outs : n.outs.length < 64
  insts : n.insts.length + n.flops.length ≤ 4096

theorem InsOK.of {n : Net} {ord : List Int} (h : insE n ord = 0) : InsOK n ord := by
  unfold insE at h
  by_cases h1 : scanE n ord = 0
  · rw [if_neg (by simpa using h1)] at h
    by_cases h2 : matchE n.cells 202 3 ≠ 0 ∨ matchGo 202 3 0 n.cells = []
    · rw [if_pos h2] at h; cases h
    · rw [if_neg h2] at h
      by_cases h3 : n.inputs + 2 > 64 ∨ (n.outs.length : Int) ≥ 64 ∨ ((n.insts.length : Int) + n.flops.length > 4096)
      · rw [if_pos h3] at h; cases h
      · obtain ⟨a, b, c⟩ := scanE_zero h1
        have h4 : ¬ n.inputs + 2 > 64 := fun x => h3 (.inl x)
        have h5 : ¬ (n.outs.length : Int) ≥ 64 := fun x => h3 (.inr (.inl x))
        have h6 : ¬ ((n.insts.length : Int) + n.flops.length > 4096) := fun x => h3 (.inr (.inr x))
        exact ⟨a, b, by omega, fun x => h2 (.inr x), by omega, by omega, by omega⟩
  · rw [if_pos h1] at h; exact absurd h h1

theorem InsOK.k {n : Net} {ord : List Int} (o : InsOK n ord) : InsK n n.flops.length (insGo n ord) := by
  have s := ShapeOK.of (netE_zero.1 o.net).1
  have hp := pick3_ok o.found
  have := InsK.go s hp.2.2.2.1 hp.2.2.2.2 ord (InsK.start s) (fun z hz => by obtain ⟨i, hi, rfl⟩ := o.perm.range hz; have := o.len; omega)
  rw [Nat.zero_add, o.len] at this
  exact this

theorem instsGo_of {n : Net} : ∀ {l : List Inst}, (∀ x ∈ l, instE n x = 0) → instsGo n l = 0 := by
  intro l
  induction l with
  | nil => intro _; rfl
  | cons x xs ih =>
    intro h
    rw [instsGo, h x (List.mem_cons_self ..), ih (fun y hy => h y (List.mem_cons_of_mem _ hy))]
    simp

theorem shapeE_of {n : Net} (h0 : (cellsE n.cells).2 = 0) (h1 : 0 ≤ n.inputs) (h2 : n.inputs ≤ 64) (h3 : n.flops.length ≤ 64) (h4 : n.outs.length ≤ 64) (h5 : n.insts.length ≤ 4096)
    (hi : ∀ x ∈ n.insts, (0 ≤ x.cell ∧ x.cell < n.cells.length ∧ (x.pins.length : Int) = (n.cells.getD x.cell.toNat default).pins) ∧ ∀ p ∈ x.pins, -2 ≤ p ∧ p < firstE n + n.insts.length)
    (hf : ∀ x ∈ n.flops, (-2 ≤ x.next ∧ x.next < firstE n + n.insts.length) ∧ x.init ≤ 1) (ho : ∀ p ∈ n.outs, -2 ≤ p ∧ p < firstE n + n.insts.length) : shapeE n = 0 := by
  have hb : ¬ bigB n = true := by
    simp only [bigB, Bool.or_eq_true, decide_eq_true_eq]; omega
  have hI : instsGo n n.insts = 0 := instsGo_of fun x hx => by
    obtain ⟨⟨a, b, c⟩, d⟩ := hi x hx
    have e1 : ¬ (decide (x.cell < 0) || decide (x.cell ≥ n.cells.length)) = true := by simp; omega
    have e2 : ¬ x.pins.any (badB n) = true := by
      rw [List.any_eq_true]
      rintro ⟨p, hp, hbad⟩
      rw [badB_false.2 (d p hp)] at hbad; cases hbad
    unfold instE
    rw [if_neg e1, if_neg (by simpa using c), if_neg e2]
  have hF : ¬ n.flops.any (flopB n) = true := by
    rw [List.any_eq_true]
    rintro ⟨x, hx, hbad⟩
    obtain ⟨a, b⟩ := hf x hx
    rw [flopB, badB_false.2 a] at hbad
    simp at hbad; omega
  have hO : ¬ n.outs.any (badB n) = true := by
    rw [List.any_eq_true]
    rintro ⟨x, hx, hbad⟩
    rw [badB_false.2 (ho x hx)] at hbad; cases hbad
  unfold shapeE
  rw [if_neg (by simpa using h0), if_neg (by omega), if_neg hb, if_neg (by simpa using hI), if_neg hF, if_neg hO]

section
variable {n : Net} {ord : List Int}

theorem insN_split (o : InsOK n ord) : (insN n ord).insts = n.insts.map (instS n) ++ (insN n ord).insts.drop n.insts.length := by
  have := o.k.old
  conv => lhs; rw [← List.take_append_drop n.insts.length (insN n ord).insts]
  rw [show (insN n ord).insts.take n.insts.length = _ from this]

theorem insN_first (o : InsOK n ord) : firstE (insN n ord) = firstE n + 2 := by
  show (insGo n ord).2.inputs + (insGo n ord).2.flops.length = _
  rw [o.k.inputs, o.k.fl]; unfold firstE; omega
theorem insN_len (o : InsOK n ord) : (insN n ord).insts.length = n.insts.length + n.flops.length := o.k.il

theorem insN_shape (o : InsOK n ord) : shapeE (insN n ord) = 0 := by
  have s := ShapeOK.of (netE_zero.1 o.net).1
  have k := o.k
  have hp := pick3_ok o.found
  have hf := insN_first o
  have hl := insN_len o
  have hfl := s.fl
  have hi0 := s.i0
  have ho2 := o.outs
  have hi2 := o.i2
  have hil := o.insts
  have hc : (insN n ord).cells = n.cells := k.cells
  have hF : firstE n = n.inputs + n.flops.length := rfl
  refine shapeE_of (by rw [hc]; exact s.cells) (by show 0 ≤ (insGo n ord).2.inputs; rw [k.inputs]; omega) (by show (insGo n ord).2.inputs ≤ 64; rw [k.inputs]; omega) (by show (insGo n ord).2.flops.length ≤ 64; rw [k.fl]; omega)
    (by show ((insGo n ord).2.outs ++ _).length ≤ 64; rw [k.outs]; simp; omega) (by rw [hl]; omega) (fun x hx => ?_) (fun x hx => ?_) (fun p hpm => ?_)
  · rw [insN_split o] at hx
    rw [hc, hf, hl]
    rcases List.mem_append.1 hx with hx | hx
    · obtain ⟨y, hy, rfl⟩ := List.mem_map.1 hx
      obtain ⟨c0, c1, c2⟩ := s.cell y hy
      refine ⟨⟨c0, c1, by simp only [instS, List.length_map]; exact c2⟩, fun p hp => ?_⟩
      obtain ⟨q, hq, rfl⟩ := List.mem_map.1 hp
      have := shiftE_range s (s.pin y hy q hq)
      omega
    · obtain ⟨c0, c1, c2⟩ := k.new x hx
      rw [c0]
      refine ⟨⟨hp.1, hp.2.1, by rw [c1, hp.2.2.1]; rfl⟩, fun p hpm => ?_⟩
      have := c2 p hpm
      omega
  · rw [hf, hl]
    have hx' : x ∈ (insGo n ord).2.flops := hx
    have := k.next x hx'
    refine ⟨by omega, ?_⟩
    have hin : x.init ∈ n.flops.map (·.init) := by rw [← k.init]; exact List.mem_map.2 ⟨x, hx', rfl⟩
    obtain ⟨y, hy, e⟩ := List.mem_map.1 hin
    rw [← e]; exact (s.flop y hy).2
  · rw [hf, hl]
    have hpm : p ∈ (insGo n ord).2.outs ++ [(insGo n ord).1] := hpm
    rcases List.mem_append.1 hpm with hpm | hpm
    · rw [k.outs] at hpm
      obtain ⟨q, hq, rfl⟩ := List.mem_map.1 hpm
      have := shiftE_range s (s.out q hq)
      omega
    · rw [List.mem_singleton] at hpm
      have := k.before
      omega
end

end Go.Ab.S1
