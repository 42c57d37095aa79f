/- slices.Index and Contains for ints; the laws' Long. cell.orders: the orders of 0..n-1, by an iterator that calls itself. cell.orders: its closure. cell.Match: what its rounds keep. cell.Match. Blocks of one's own, and the part of the heap beside them. -/
import Derived.Test.YtnejoceplinjpaaGreatB8
set_option linter.unusedSimpArgs false
set_option linter.unusedVariables false
namespace Go.Ab.S1
open Go.Proofs
set_option linter.unusedSimpArgs false
set_option linter.unusedVariables false
set_option maxRecDepth 100000
set_option maxHeartbeats 4000000
attribute [local push_cast] wpA_skip wpA_ret wpA_exit wpA_seq wpA_block wpA_cond2 andK_true wpA_region wpA_draw wpA_loop thenQ_normal thenQ_ret thenQ_exit blockQ_normal blockQ_ret blockQ_exit condV_true condV_false opsM_nil opsM_cons2 okM_true wantM_true wantM_false stepM seqM_cons2 seqM_nil2 okS_true wantS_true wantS_false stepS skipS okB Keeps_nil contK_app List.zip_cons_cons List.zip_nil_left List.zip_nil_right Op.operands Call.operands Array.toList_append List.append_nil List.nil_append List.all_cons List.all_nil cOK plain put_n put_tm put_none put_df ev_tmp ev_const ev_func wanted_none wanted_some callR_func dop ex_some1 aBuiltin aBin intBin aUn Option.map_some Bool.and_true Bool.true_and Bool.and_self List.map_cons List.map_nil List.toList_toArray List.getElem?_toArray List.getElem?_cons_zero List.getElem?_cons_succ Option.getD_some Option.getD_none Bool.false_eq_true eq_self_iff_true decide_true decide_false List.cons_append aExtract resL resV List.getD_cons_zero List.getD_cons_succ List.getD_nil Nat.succ_ne_self g1 g2 yieldedA2 isB_bool isB_undef g3 Option.bind_some Option.bind_none bne_self_eq_false beq_self_eq_true Bool.not_true Bool.not_false Int.toNat_natCast List.length_map List.mem_cons List.not_mem_nil or_false not_false_eq_true decide_not Bool.not_not bodyR_ret2 bodyR_normal2 closeMarks_nil ex_some0 Nat.zero_add Nat.add_zero ieq ine List.map_toArray Option.toArray_none Option.toArray_some oev Keeps_cons Still_eq selL wpX_skip wpX_ret wpX_exit wpX_seq wpX_block wpX_cond wpX_region wpX_draw wpX_loop List.take_succ_cons List.take_zero List.drop_succ_cons List.drop_zero Int.zero_add Int.add_zero aNil

theorem indexInt {h : AH} {v : Value} {zs : List Int} {x : Int} (hv : SlOf h v (zs.map (.int .i64))) (hb : zs.length ≤ 4611686018427387904) :
    ACall Tryz.prog 105 [v, .int .i64 x] h (IdxPost (fun z => decide (x = z)) zs h) := by
  refine ACall.of_wp 19 [.tmp 4] Tryz.func105 rfl (by kernel_rfl) rfl rfl fun a hn hd ha => ?_
  simp (disch := first | omega | decide | (simp only [List.length_cons, List.length_nil] <;> omega)) only [push_cast, ↓reduceIte, Nat.reduceLT, Nat.reduceEqDiff, reduceCtorEq, Nat.reduceAdd, if_true, if_false, true_and, and_true, hn, hd, ha, hv.lenM Tryz.underlying25]
  refine AW.loopN 8 [4, 5] (fun m a' h' => h' = h ∧ ∃ i : Nat, a'.tm 8 = .int .i64 i ∧ i + m = zs.length ∧ a'.tm 7 = .int .i64 zs.length ∧ (zs.drop i).any (fun z => decide (x = z)) = zs.any (fun z => decide (x = z))) zs.length ?_ ?_
  · exact ⟨rfl, 0, by simp (disch := first | omega | decide | (simp only [List.length_cons, List.length_nil] <;> omega)) only [push_cast, ↓reduceIte, Nat.reduceLT, Nat.reduceEqDiff, reduceCtorEq, Nat.reduceAdd, if_true, if_false, true_and, and_true], by omega, by simp (disch := first | omega | decide | (simp only [List.length_cons, List.length_nil] <;> omega)) only [push_cast, ↓reduceIte, Nat.reduceLT, Nat.reduceEqDiff, reduceCtorEq, Nat.reduceAdd, if_true, if_false, true_and, and_true], rfl⟩
  · rintro a1 m a' h' hk kn kd kt ⟨rfl, i, h8, him, h7, hany⟩
    simp (disch := first | omega | decide | (simp only [List.length_cons, List.length_nil] <;> omega)) only [push_cast, ↓reduceIte, Nat.reduceLT, Nat.reduceEqDiff, reduceCtorEq, Nat.reduceAdd, if_true, if_false, true_and, and_true, kn, kd, kt, hn, hd, ha, h8, h7]
    refine condV_of (fun hlt => ?_) (fun hge => ?_)
    · have hi : i < zs.length := by have := hlt; simp at this; omega
      rw [any_drop hi 0] at hany
      simp (disch := first | omega | decide | (simp only [List.length_cons, List.length_nil] <;> omega)) only [push_cast, ↓reduceIte, Nat.reduceLT, Nat.reduceEqDiff, reduceCtorEq, Nat.reduceAdd, if_true, if_false, true_and, and_true, kn, kd, kt, hn, hd, ha, h8, h7, hv.idxI sl22, hv.ldI sl22]
      refine condV_of (fun hp => ?_) (fun hp => ?_)
      · simp (disch := first | omega | decide | (simp only [List.length_cons, List.length_nil] <;> omega)) only [push_cast, ↓reduceIte, Nat.reduceLT, Nat.reduceEqDiff, reduceCtorEq, Nat.reduceAdd, if_true, if_false, true_and, and_true, kn, kd, kt, hn, hd, ha, h8, h7]
        refine ⟨rfl, i, rfl, ?_⟩
        rw [← hany, hp]; simp
      · simp (disch := first | omega | decide | (simp only [List.length_cons, List.length_nil] <;> omega)) only [push_cast, ↓reduceIte, Nat.reduceLT, Nat.reduceEqDiff, reduceCtorEq, Nat.reduceAdd, if_true, if_false, true_and, and_true, kn, kd, kt, hn, hd, ha, h8, h7, wrapI]
        exact ⟨m - 1, by omega, (by simp (disch := decide) only [Kp_put, put_none, hk]), rfl, i + 1, by simp (disch := first | omega | decide | (simp only [List.length_cons, List.length_nil] <;> omega)) only [push_cast, ↓reduceIte, Nat.reduceLT, Nat.reduceEqDiff, reduceCtorEq, Nat.reduceAdd, if_true, if_false, true_and, and_true], by omega, by simp (disch := first | omega | decide | (simp only [List.length_cons, List.length_nil] <;> omega)) only [push_cast, ↓reduceIte, Nat.reduceLT, Nat.reduceEqDiff, reduceCtorEq, Nat.reduceAdd, if_true, if_false, true_and, and_true, h7], by rw [← hany, hp]; simp⟩
    · have hi : zs.length ≤ i := by have := hge; simp at this; omega
      rw [List.drop_of_length_le hi] at hany
      simp (disch := first | omega | decide | (simp only [List.length_cons, List.length_nil] <;> omega)) only [push_cast, ↓reduceIte, Nat.reduceLT, Nat.reduceEqDiff, reduceCtorEq, Nat.reduceAdd, if_true, if_false, true_and, and_true, kn, kd, kt, hn, hd, ha, h8, h7]
      exact ⟨rfl, -1, rfl, by rw [← hany]; rfl⟩

theorem containsInt {h : AH} {v : Value} {zs : List Int} {x : Int} (hv : SlOf h v (zs.map (.int .i64))) (hb : zs.length ≤ 4611686018427387904) :
    ACall Tryz.prog 87 [v, .int .i64 x] h (fun r h' => r = .bool (decide (x ∈ zs)) ∧ h' = h) := by
  refine ACall.of_wp 9 [.tmp 4] Tryz.func87 rfl (by kernel_rfl) rfl rfl fun a hn hd ha => ?_
  simp (disch := first | omega | decide | (simp only [List.length_cons, List.length_nil] <;> omega)) only [push_cast, ↓reduceIte, Nat.reduceLT, Nat.reduceEqDiff, reduceCtorEq, Nat.reduceAdd, if_true, if_false, true_and, and_true, hn, hd, ha]
  refine ACall.mono ?_ (indexInt hv hb)
  rintro _ _ ⟨rfl, k, rfl, hk⟩
  have hm : zs.any (fun z => decide (x = z)) = decide (x ∈ zs) := by
    rw [Bool.eq_iff_iff, List.any_eq_true, decide_eq_true_iff]
    constructor
    · rintro ⟨z, hz, e⟩; simp only [decide_eq_true_eq] at e; subst e; exact hz
    · intro hz; exact ⟨x, hz, by simp⟩
  simp (disch := first | omega | decide | (simp only [List.length_cons, List.length_nil] <;> omega)) only [push_cast, ↓reduceIte, Nat.reduceLT, Nat.reduceEqDiff, reduceCtorEq, Nat.reduceAdd, if_true, if_false, true_and, and_true, hn, hd, ha, hk, hm]

/-! ### Long -/

theorem long28 {h : AH} {v : Value} {cs : List Cell} (hv : RowOf cellL h v cs) (hb : cs.length ≤ 4611686018427387904) :
    ACall Tryz.prog 25 [v] h (fun r h' => (∃ b, r = .bool b) ∧ h' = h) := by
  refine ACall.of_wp 29 [.tmp 2] Tryz.func25 rfl (by kernel_rfl) rfl rfl fun a hn hd ha => ?_
  simp (disch := first | omega | decide | (simp only [List.length_cons, List.length_nil] <;> omega)) only [push_cast, ↓reduceIte, Nat.reduceLT, Nat.reduceEqDiff, reduceCtorEq, Nat.reduceAdd, if_true, if_false, true_and, and_true, hn, hd, ha, hv.len Tryz.underlying22]
  refine condV_of (fun h0 => ?_) (fun h0 => ?_)
  · simp (disch := first | omega | decide | (simp only [List.length_cons, List.length_nil] <;> omega)) only [push_cast, ↓reduceIte, Nat.reduceLT, Nat.reduceEqDiff, reduceCtorEq, Nat.reduceAdd, if_true, if_false, true_and, and_true, hn, hd, ha]
    exact ⟨_, rfl⟩
  simp (disch := first | omega | decide | (simp only [List.length_cons, List.length_nil] <;> omega)) only [push_cast, ↓reduceIte, Nat.reduceLT, Nat.reduceEqDiff, reduceCtorEq, Nat.reduceAdd, if_true, if_false, true_and, and_true, hn, hd, ha]
  refine AW.loopN 4 [3] (fun m a' h' => h' = h ∧ ∃ i : Nat, a'.tm 3 = .int .i64 i ∧ i + m = cs.length) cs.length ?_ ?_
  · exact ⟨rfl, 0, by simp (disch := first | omega | decide | (simp only [List.length_cons, List.length_nil] <;> omega)) only [push_cast, ↓reduceIte, Nat.reduceLT, Nat.reduceEqDiff, reduceCtorEq, Nat.reduceAdd, if_true, if_false, true_and, and_true], by omega⟩
  · rintro a1 m a' h' hk kn kd kt ⟨rfl, i, h3, him⟩
    simp (disch := first | omega | decide | (simp only [List.length_cons, List.length_nil] <;> omega)) only [push_cast, ↓reduceIte, Nat.reduceLT, Nat.reduceEqDiff, reduceCtorEq, Nat.reduceAdd, if_true, if_false, true_and, and_true, kn, kd, kt, hn, hd, ha, h3, hv.len Tryz.underlying22]
    refine condV_of (fun hlt => ?_) (fun hge => ?_)
    · have hi : i < cs.length := by have := hlt; simp at this; omega
      obtain ⟨ccs, ⟨dv, rfl, hdv⟩, -, hcf, hca⟩ := hv.get (P := Tryz.prog) hi default
      have hw : IntKind.i64.wrap ((i : Int) + 1) = i + 1 := wrapI (by omega) (by omega)
      simp (disch := first | omega | decide | (simp only [List.length_cons, List.length_nil] <;> omega)) only [push_cast, ↓reduceIte, Nat.reduceLT, Nat.reduceEqDiff, reduceCtorEq, Nat.reduceAdd, if_true, if_false, true_and, and_true, kn, kd, kt, hn, hd, ha, h3, hv.idx Tryz.underlying22 infC, hca _ _ _ foC0, hca _ _ _ foC4, hcf 0 _ fl9 (by decide), hcf 4 _ flL (by decide), lenStr Tryz.underlying9, hdv.lenM Tryz.underlying38]
      refine wantM_not (fun e => ?_) (fun e => ?_)
      · simp (disch := first | omega | decide | (simp only [List.length_cons, List.length_nil] <;> omega)) only [push_cast, ↓reduceIte, Nat.reduceLT, Nat.reduceEqDiff, reduceCtorEq, Nat.reduceAdd, if_true, if_false, true_and, and_true, kn, kd, kt, hn, hd, ha, h3, e]
        exact ⟨_, rfl⟩
      · simp (disch := first | omega | decide | (simp only [List.length_cons, List.length_nil] <;> omega)) only [push_cast, ↓reduceIte, Nat.reduceLT, Nat.reduceEqDiff, reduceCtorEq, Nat.reduceAdd, if_true, if_false, true_and, and_true, kn, kd, kt, hn, hd, ha, h3, e, hv.idx Tryz.underlying22 infC, hca _ _ _ foC0, hca _ _ _ foC4, hcf 0 _ fl9 (by decide), hcf 4 _ flL (by decide), lenStr Tryz.underlying9, hdv.lenM Tryz.underlying38]
        refine condV_of (fun e2 => ?_) (fun e2 => ?_)
        · simp (disch := first | omega | decide | (simp only [List.length_cons, List.length_nil] <;> omega)) only [push_cast, ↓reduceIte, Nat.reduceLT, Nat.reduceEqDiff, reduceCtorEq, Nat.reduceAdd, if_true, if_false, true_and, and_true, kn, kd, kt, hn, hd, ha, h3, e]
          exact ⟨_, rfl⟩
        · simp (disch := first | omega | decide | (simp only [List.length_cons, List.length_nil] <;> omega)) only [push_cast, ↓reduceIte, Nat.reduceLT, Nat.reduceEqDiff, reduceCtorEq, Nat.reduceAdd, if_true, if_false, true_and, and_true, kn, kd, kt, hn, hd, ha, h3, e, hw]
          exact ⟨m - 1, by omega, (by simp (disch := decide) only [Kp_put, put_none, hk]), rfl, i + 1, by simp (disch := first | omega | decide | (simp only [List.length_cons, List.length_nil] <;> omega)) only [push_cast, ↓reduceIte, Nat.reduceLT, Nat.reduceEqDiff, reduceCtorEq, Nat.reduceAdd, if_true, if_false, true_and, and_true], by omega⟩
    · simp (disch := first | omega | decide | (simp only [List.length_cons, List.length_nil] <;> omega)) only [push_cast, ↓reduceIte, Nat.reduceLT, Nat.reduceEqDiff, reduceCtorEq, Nat.reduceAdd, if_true, if_false, true_and, and_true, kn, kd, kt, hn, hd, ha, h3]
      exact ⟨_, rfl⟩

theorem long29 {h : AH} {n : Net} {cv fv iv ov : Value} (r : NetR h n cv fv iv ov) (ok : NetOK n) (hc : n.cells.length ≤ 4611686018427387904) :
    ACall Tryz.prog 8 [.agg (netC n cv fv iv ov).toArray] h (fun v h' => (∃ b, v = .bool b) ∧ Gr h h') := by
  refine ACall.wf ⟨_, Tryz.func8, rfl, by kernel_rfl⟩ fun hwf => ?_
  refine ACall.of_wp 38 [.tmp 2] Tryz.func8 rfl (by kernel_rfl) rfl rfl fun a hn hd ha => ?_
  have hbox := boxA 27 h _ r.one
  have hN := NetAt.new (h := h) (n := n) (cv := cv) (fv := fv) (iv := iv) (ov := ov)
  have r1 := r.sub (Sub.new hwf (.row (netC n cv fv iv ov) 27 true))
  have g1 : Gr h (h.new (.row (netC n cv fv iv ov) 27 true)) := (Gr.refl hwf).new _
  have hil := ok.il
  simp (disch := first | omega | decide | (simp only [List.length_cons, List.length_nil] <;> omega)) only [push_cast, ↓reduceIte, Nat.reduceLT, Nat.reduceEqDiff, reduceCtorEq, Nat.reduceAdd, if_true, if_false, true_and, and_true, hn, hd, ha, hbox, faL foN0, faL foN1, faL foN2, faL foN3, faL foN4, hN.l0, hN.l1, hN.l2, hN.l3, hN.l4, hN.la]
  generalize h.new (.row (netC n cv fv iv ov) 27 true) = h1 at hN r1 g1 ⊢
  generalize h.next = B at hN ⊢
  refine ACall.mono ?_ (long28 r1.c hc)
  rintro _ h1 ⟨⟨b, rfl⟩, rfl⟩
  simp (disch := first | omega | decide | (simp only [List.length_cons, List.length_nil] <;> omega)) only [push_cast, ↓reduceIte, Nat.reduceLT, Nat.reduceEqDiff, reduceCtorEq, Nat.reduceAdd, if_true, if_false, true_and, and_true, hn, hd, ha]
  have fin : ∀ b : Bool, (∃ b', Value.bool b = .bool b') ∧ Gr h h1 := fun b => ⟨⟨b, rfl⟩, g1⟩
  have tail : ∀ a : AAct, True := fun _ => trivial
  cases b with
  | true =>
    simp (disch := first | omega | decide | (simp only [List.length_cons, List.length_nil] <;> omega)) only [push_cast, ↓reduceIte, Nat.reduceLT, Nat.reduceEqDiff, reduceCtorEq, Nat.reduceAdd, if_true, if_false, true_and, and_true, hn, hd, ha]
    exact ⟨⟨_, rfl⟩, g1⟩
  | false =>
    simp (disch := first | omega | decide | (simp only [List.length_cons, List.length_nil] <;> omega)) only [push_cast, ↓reduceIte, Nat.reduceLT, Nat.reduceEqDiff, reduceCtorEq, Nat.reduceAdd, if_true, if_false, true_and, and_true, hn, hd, ha, faL foN0, faL foN1, faL foN2, faL foN3, faL foN4, hN.l0, hN.l1, hN.l2, hN.l3, hN.l4, hN.la, r1.i.len Tryz.underlying24]
    refine wantM_not (fun e => ?_) (fun e => ?_)
    · simp (disch := first | omega | decide | (simp only [List.length_cons, List.length_nil] <;> omega)) only [push_cast, ↓reduceIte, Nat.reduceLT, Nat.reduceEqDiff, reduceCtorEq, Nat.reduceAdd, if_true, if_false, true_and, and_true, hn, hd, ha, e]
      exact ⟨⟨_, rfl⟩, g1⟩
    simp (disch := first | omega | decide | (simp only [List.length_cons, List.length_nil] <;> omega)) only [push_cast, ↓reduceIte, Nat.reduceLT, Nat.reduceEqDiff, reduceCtorEq, Nat.reduceAdd, if_true, if_false, true_and, and_true, hn, hd, ha, e, faL foN0, faL foN1, faL foN2, faL foN3, faL foN4, hN.l0, hN.l1, hN.l2, hN.l3, hN.l4, hN.la, r1.f.len Tryz.underlying23]
    refine wantM_not (fun e => ?_) (fun e => ?_)
    · simp (disch := first | omega | decide | (simp only [List.length_cons, List.length_nil] <;> omega)) only [push_cast, ↓reduceIte, Nat.reduceLT, Nat.reduceEqDiff, reduceCtorEq, Nat.reduceAdd, if_true, if_false, true_and, and_true, hn, hd, ha, e]
      exact ⟨⟨_, rfl⟩, g1⟩
    simp (disch := first | omega | decide | (simp only [List.length_cons, List.length_nil] <;> omega)) only [push_cast, ↓reduceIte, Nat.reduceLT, Nat.reduceEqDiff, reduceCtorEq, Nat.reduceAdd, if_true, if_false, true_and, and_true, hn, hd, ha, e, faL foN0, faL foN1, faL foN2, faL foN3, faL foN4, hN.l0, hN.l1, hN.l2, hN.l3, hN.l4, hN.la, r1.o.lenM Tryz.underlying25]
    refine condV_of (fun e => ?_) (fun e => ?_)
    · simp (disch := first | omega | decide | (simp only [List.length_cons, List.length_nil] <;> omega)) only [push_cast, ↓reduceIte, Nat.reduceLT, Nat.reduceEqDiff, reduceCtorEq, Nat.reduceAdd, if_true, if_false, true_and, and_true, hn, hd, ha, e]
      exact ⟨⟨_, rfl⟩, g1⟩
    simp (disch := first | omega | decide | (simp only [List.length_cons, List.length_nil] <;> omega)) only [push_cast, ↓reduceIte, Nat.reduceLT, Nat.reduceEqDiff, reduceCtorEq, Nat.reduceAdd, if_true, if_false, true_and, and_true, hn, hd, ha, e, faL foN0, faL foN1, faL foN2, faL foN3, faL foN4, hN.l0, hN.l1, hN.l2, hN.l3, hN.l4, hN.la, r1.i.len Tryz.underlying24]
    refine AW.loopN 29 [4] (fun m a' h' => Gr h1 h' ∧ ∃ i : Nat, a'.tm 29 = .int .i64 i ∧ i + m = n.insts.length) n.insts.length ?_ ?_
    · exact ⟨Gr.refl g1.wf, 0, by simp (disch := first | omega | decide | (simp only [List.length_cons, List.length_nil] <;> omega)) only [push_cast, ↓reduceIte, Nat.reduceLT, Nat.reduceEqDiff, reduceCtorEq, Nat.reduceAdd, if_true, if_false, true_and, and_true], by omega⟩
    rintro a1 m a' h' hk kn kd kt ⟨hg, i, h29, him⟩
    simp (disch := first | omega | decide | (simp only [List.length_cons, List.length_nil] <;> omega)) only [push_cast, ↓reduceIte, Nat.reduceLT, Nat.reduceEqDiff, reduceCtorEq, Nat.reduceAdd, if_true, if_false, true_and, and_true, kn, kd, kt, hn, hd, ha, h29]
    refine condV_of (fun hlt => ?_) (fun hge => ?_)
    · have hi : i < n.insts.length := by have := hlt; simp at this; omega
      obtain ⟨cs, ⟨pv, rfl, hpv⟩, hld, -, -⟩ := r1.i.get hi default
      replace hld := aLoad_sub hg.sub (hld _ agI)
      generalize n.insts.getD i default = x at *
      have hst := fun (hh : AH) cs e hl => stN agI hh cs e [Value.int .i64 x.cell, pv] hl rfl (by simp only [List.all_cons, List.all_nil, hpv.one]; rfl)
      have gI := hg.new (.row [Value.int .i64 x.cell, pv] 36 true)
      have hI := CsAt.new h' [Value.int .i64 x.cell, pv] 36 true
      have hw : IntKind.i64.wrap ((i : Int) + 1) = i + 1 := wrapI (by omega) (by omega)
      simp (disch := first | omega | decide | (simp only [List.length_cons, List.length_nil] <;> omega)) only [push_cast, ↓reduceIte, Nat.reduceLT, Nat.reduceEqDiff, reduceCtorEq, Nat.reduceAdd, if_true, if_false, true_and, and_true, kn, kd, kt, hn, hd, ha, h29, r1.i.idx Tryz.underlying24 infI, hld, alL zrI, hst]
      generalize h'.new (.row [Value.int .i64 x.cell, pv] 36 true) = k2 at gI hI ⊢
      generalize h'.next = I0 at hI ⊢
      simp (disch := first | omega | decide | (simp only [List.length_cons, List.length_nil] <;> omega)) only [push_cast, ↓reduceIte, Nat.reduceLT, Nat.reduceEqDiff, reduceCtorEq, Nat.reduceAdd, if_true, if_false, true_and, and_true, kn, kd, kt, hn, hd, ha, h29, faL foI0, faL foI1, hI.ld flI, hpv.lenA Tryz.underlying25]
      refine condV_of (fun e2 => ?_) (fun e2 => ?_)
      · simp (disch := first | omega | decide | (simp only [List.length_cons, List.length_nil] <;> omega)) only [push_cast, ↓reduceIte, Nat.reduceLT, Nat.reduceEqDiff, reduceCtorEq, Nat.reduceAdd, if_true, if_false, true_and, and_true, kn, kd, kt, hn, hd, ha, h29]
        exact ⟨⟨_, rfl⟩, g1.trans gI⟩
      · simp (disch := first | omega | decide | (simp only [List.length_cons, List.length_nil] <;> omega)) only [push_cast, ↓reduceIte, Nat.reduceLT, Nat.reduceEqDiff, reduceCtorEq, Nat.reduceAdd, if_true, if_false, true_and, and_true, kn, kd, kt, hn, hd, ha, h29, hw]
        exact ⟨m - 1, by omega, (by simp (disch := decide) only [Kp_put, put_none, hk]), gI, i + 1, by simp (disch := first | omega | decide | (simp only [List.length_cons, List.length_nil] <;> omega)) only [push_cast, ↓reduceIte, Nat.reduceLT, Nat.reduceEqDiff, reduceCtorEq, Nat.reduceAdd, if_true, if_false, true_and, and_true], by omega⟩
    · simp (disch := first | omega | decide | (simp only [List.length_cons, List.length_nil] <;> omega)) only [push_cast, ↓reduceIte, Nat.reduceLT, Nat.reduceEqDiff, reduceCtorEq, Nat.reduceAdd, if_true, if_false, true_and, and_true, kn, kd, kt, hn, hd, ha, h29]
      exact ⟨⟨_, rfl⟩, g1.trans hg⟩


theorem flY : Fl Tryz.prog 121 := ⟨_, Tryz.underlying121, rfl⟩

/-- The orders that begin with xs, f more to come. -/
def ext (N : Nat) : Nat → List Int → List (List Int)
  | 0, xs => [xs]
  | f + 1, xs => (List.range N).flatMap fun (i : Nat) => if (i : Int) ∈ xs then [] else ext N f (xs ++ [(i : Int)])

/-- All but the block A stays. -/
structure Ex (A : Nat) (h h' : AH) : Prop where
  wf : WFH h'
  nx : h.next ≤ h'.next
  keep : ∀ B o, h.get B = some o → B ≠ A → h'.get B = some o

theorem Ex.refl {A : Nat} {h : AH} (hw : WFH h) : Ex A h h := ⟨hw, Nat.le_refl _, fun _ _ x _ => x⟩
theorem Ex.trans {A : Nat} {a b c : AH} (x : Ex A a b) (y : Ex A b c) : Ex A a c := ⟨y.wf, Nat.le_trans x.nx y.nx, fun B o h n => y.keep B o (x.keep B o h n) n⟩
theorem grEx {A : Nat} {h h' : AH} (g : Gr h h') : Ex A h h' := ⟨g.wf, g.nx, fun B o x _ => g.sub B o x⟩
theorem csEx {A B : Nat} {h h' : AH} {cs : List Value} (c : CsAt h B cs) (e : Ex A h h') (hne : B ≠ A) : CsAt h' B cs := let ⟨o, x, y⟩ := c; ⟨o, e.keep B o x hne, y⟩

/-- An append that finds room. -/
theorem appFit {h : AH} {A n C D : Nat} {cs : List Value} {x : Value} {oD : AObj} (hA : h.get A = some (.row cs 3 true)) (hn : n + 1 ≤ C) (hC : C ≤ cs.length) (hS : C ≤ 64) (hD : h.get D = some oD) (hDc : oD.cells? = some [x]) :
    aAppend Tryz.prog #[25, 25] (.slice (some ⟨A, 0, none⟩) n C) (.slice (some ⟨D, 0, none⟩) 1 1) h = some (.slice (some ⟨A, 0, none⟩) (n + 1) C, h.set A (.row (cs.set n x) 3 true)) := by
  have hsrc : srcCells 1 (.slice (some ⟨D, 0, none⟩) 1 1) h = some (1, [x]) := by
    simp [srcCells, hD, hDc]
  obtain ⟨i, hi, h1, hbb, hzz⟩ := t22.info
  have hcap : C < SL := by unfold SL; omega
  have hset : n + 1 ≤ cs.length := by omega
  have hc : (Value.int .i64 0).cells.size = 1 := rfl
  simp [aAppend, t22.sl, hi, hzz, h1, hc, isIntT, hsrc, hcap, hA, hn, AObj.setCells, hset, setL_one, t22.zk]

/-- The three captured blocks. -/
structure Env (N P1 P2 P3 : Nat) (yv : Value) (h : AH) : Prop where
  n : CsAt h P1 [.int .i64 N]
  y : CsAt h P2 [yv]
  f : CsAt h P3 [.func (.func 86) #[] #[.pointer (some ⟨P1, 0, none⟩), .pointer (some ⟨P2, 0, none⟩), .pointer (some ⟨P3, 0, none⟩)]]

theorem Env.ex {N P1 P2 P3 A : Nat} {yv : Value} {h h' : AH} (e : Env N P1 P2 P3 yv h) (x : Ex A h h') (h1 : P1 ≠ A) (h2 : P2 ≠ A) (h3 : P3 ≠ A) : Env N P1 P2 P3 yv h' := ⟨csEx e.n x h1, csEx e.y x h2, csEx e.f x h3⟩

/-- The row in which the orders are built. -/
def Base (N A : Nat) (xs : List Int) (h : AH) : Prop := ∃ cs, h.get A = some (.row cs 3 true) ∧ cs.length = N ∧ cs.take xs.length = xs.map (.int .i64)

theorem Base.sl {N A : Nat} {xs : List Int} {h : AH} (b : Base N A xs h) : SlOf h (.slice (some ⟨A, 0, none⟩) xs.length N) (xs.map (.int .i64)) := by
  obtain ⟨cs, hg, hl, ht⟩ := b
  have ht' : cs.take (xs.map (Value.int .i64)).length = xs.map (.int .i64) := by simpa using ht
  exact ⟨_, _, _, rfl, by simp, (fun q x => by cases x; rfl), .inr ⟨A, 0, _, cs, rfl, hg, rfl, fun i x hx => by rw [Nat.zero_add]; exact take_get ht' i x hx⟩⟩

theorem IntsV.fresh {h : AH} {v : Value} {ob : Option AObj} {A k : Nat} {zs : List Int} (hv : IntsV h v ob A zs) (hlo : ∀ o, ob = some o → k ≤ A) : ∀ C off l c, v = .slice (some ⟨C, off, none⟩) l c → k ≤ C := by
  rintro C off l c rfl
  rcases hv.1 with ⟨_, e, _⟩ | ⟨cs, e, h2, _⟩ | ⟨cs, C', e, _, _, _, h2, _⟩
  · cases e
  · cases e; exact hlo _ h2
  · cases e; exact hlo _ h2

theorem flat_le {β : Type} (f : Nat → List β) {i N : Nat} (hi : i ≤ N) : ((List.range i).flatMap f).length ≤ ((List.range N).flatMap f).length := by
  have : List.range N = List.range i ++ (List.range N).drop i := by
    have h := List.take_append_drop i (List.range N)
    rw [List.take_range, Nat.min_eq_left hi] at h
    exact h.symm
  rw [this, List.flatMap_append, List.length_append]; omega

theorem inner {N P1 P2 P3 A M : Nat} {yv : Value} {I : List (List Int) → AH → Prop} (hN : N ≤ 8) (d1 : P1 ≠ A) (d2 : P2 ≠ A) (d3 : P3 ≠ A)
    (hfr : ∀ acc h h', I acc h → Ex A h h' → I acc h')
    (hy : ∀ acc h0 h p pv xs, I acc h0 → Gr h0 h → (∀ C off l c, pv = .slice (some ⟨C, off, none⟩) l c → h0.next ≤ C) → p.length ≤ 8 → acc.length < M → WFH h → Env N P1 P2 P3 yv h → Base N A xs h → SlOf h pv (p.map (.int .i64)) → callR Tryz.prog yv [pv] h (fun r h' => r = .bool true ∧ I (acc ++ [p]) h' ∧ WFH h' ∧ Env N P1 P2 P3 yv h' ∧ Base N A xs h')) :
    ∀ (f : Nat) (xs : List Int) (acc : List (List Int)) (h : AH), xs.length + f = N → acc.length + (ext N f xs).length ≤ M → WFH h → Env N P1 P2 P3 yv h → Base N A xs h → I acc h →
      ACall Tryz.prog 86 [.slice (some ⟨A, 0, none⟩) xs.length N, .pointer (some ⟨P1, 0, none⟩), .pointer (some ⟨P2, 0, none⟩), .pointer (some ⟨P3, 0, none⟩)] h
        (fun r h' => r = .bool true ∧ WFH h' ∧ Env N P1 P2 P3 yv h' ∧ Base N A xs h' ∧ I (acc ++ ext N f xs) h') := by
  intro f
  induction f with
  | zero =>
    intro xs acc h hf hM hwf he hb hI
    refine ACall.of_wp 33 [.tmp 5] Tryz.func86 rfl (by kernel_rfl) rfl rfl fun a hn hd ha => ?_
    have hxs : N = xs.length := by omega
    subst hxs
    have hsl := hb.sl
    simp (disch := first | omega | decide | (simp only [List.length_cons, List.length_nil] <;> omega)) only [push_cast, ↓reduceIte, Nat.reduceLT, Nat.reduceEqDiff, reduceCtorEq, Nat.reduceAdd, if_true, if_false, true_and, and_true, hn, hd, ha, hsl.lenM Tryz.underlying25, he.n.ld fl3]
    refine AW.drawP (.take 1 [4, 3, 2] (.watch 0 [4, 3] (.only 2 (.only 3 (.take 4 [] .done))))) [(0, 1), (1, 0), (2, 2), (2, 3), (0, 4)] mixed (by kernel_rfl) (by kernel_rfl) ?_
    simp (disch := first | omega | decide | (simp only [List.length_cons, List.length_nil] <;> omega)) only [push_cast, ↓reduceIte, Nat.reduceLT, Nat.reduceEqDiff, reduceCtorEq, Nat.reduceAdd, if_true, if_false, true_and, and_true, hn, hd, ha, he.y.ld flY]
    refine ACall.mono ?_ (cloneI hsl (by omega))
    rintro r k ⟨hg, ob, A', hr, hlo⟩
    have he' := he.ex (grEx (A := A) hg) d1 d2 d3
    have hb' : Base _ A xs k := let ⟨cs, x, y, z⟩ := hb; ⟨cs, hg.sub _ _ x, y, z⟩
    simp (disch := first | omega | decide | (simp only [List.length_cons, List.length_nil] <;> omega)) only [push_cast, ↓reduceIte, Nat.reduceLT, Nat.reduceEqDiff, reduceCtorEq, Nat.reduceAdd, if_true, if_false, true_and, and_true, hn, hd, ha, he'.y.ld flY]
    refine callR.mono ?_ (hy acc h k xs r xs hI hg (hr.fresh hlo) hN (by simp [ext] at hM; omega) hg.wf he' hb' hr.sl)
    rintro _ k2 ⟨rfl, hI2, w2, he2, hb2⟩
    simp (disch := first | omega | decide | (simp only [List.length_cons, List.length_nil] <;> omega)) only [push_cast, ↓reduceIte, Nat.reduceLT, Nat.reduceEqDiff, reduceCtorEq, Nat.reduceAdd, if_true, if_false, true_and, and_true, hn, hd, ha, he2.y.ld flY]
    exact ⟨w2, he2, hb2, hI2⟩
  | succ f ih =>
    intro xs acc h hf hM hwf he hb hI
    refine ACall.of_wp 33 [.tmp 5] Tryz.func86 rfl (by kernel_rfl) rfl rfl fun a hn hd ha => ?_
    have hxs : ¬ ((xs.length : Int) = N) := by omega
    simp (disch := first | omega | decide | (simp only [List.length_cons, List.length_nil] <;> omega)) only [push_cast, ↓reduceIte, Nat.reduceLT, Nat.reduceEqDiff, reduceCtorEq, Nat.reduceAdd, if_true, if_false, true_and, and_true, hn, hd, ha, hb.sl.lenM Tryz.underlying25, he.n.ld fl3, hxs]
    refine AW.loopN 16 [5, 6] (fun m a' h' => ∃ i : Nat, a'.tm 16 = .int .i64 i ∧ i + m = N ∧ WFH h' ∧ Env N P1 P2 P3 yv h' ∧ Base N A xs h' ∧ I (acc ++ (List.range i).flatMap fun (i : Nat) => if (i : Int) ∈ xs then [] else ext N f (xs ++ [(i : Int)])) h') N ?_ ?_
    · exact ⟨0, by simp (disch := first | omega | decide | (simp only [List.length_cons, List.length_nil] <;> omega)) only [push_cast, ↓reduceIte, Nat.reduceLT, Nat.reduceEqDiff, reduceCtorEq, Nat.reduceAdd, if_true, if_false, true_and, and_true], by omega, hwf, he, hb, by simpa using hI⟩
    clear hwf he hb hI
    rintro a1 m a' h' hk kn kd kt ⟨i, h16, him, hwf, he, hb, hI⟩
    simp (disch := first | omega | decide | (simp only [List.length_cons, List.length_nil] <;> omega)) only [push_cast, ↓reduceIte, Nat.reduceLT, Nat.reduceEqDiff, reduceCtorEq, Nat.reduceAdd, if_true, if_false, true_and, and_true, kn, kd, kt, hn, hd, ha, h16]
    refine condV_of (fun hlt => ?_) (fun hge => ?_)
    · have hi : i < N := by have := hlt; simp at this; omega
      have hw : IntKind.i64.wrap ((i : Int) + 1) = i + 1 := wrapI (by omega) (by omega)
      have hrange : (List.range (i + 1)).flatMap (fun (i : Nat) => if (i : Int) ∈ xs then [] else ext N f (xs ++ [(i : Int)])) = (List.range i).flatMap (fun (i : Nat) => if (i : Int) ∈ xs then [] else ext N f (xs ++ [(i : Int)])) ++ (if (i : Int) ∈ xs then [] else ext N f (xs ++ [(i : Int)])) := by
        rw [List.range_succ, List.flatMap_append]; simp
      have hfl := flat_le (fun (i : Nat) => if (i : Int) ∈ xs then [] else ext N f (xs ++ [(i : Int)])) (show i + 1 ≤ N by omega)
      rw [ext] at hM
      generalize (List.range N).flatMap (fun (i : Nat) => if (i : Int) ∈ xs then [] else ext N f (xs ++ [(i : Int)])) = eN at hfl hM
      generalize (List.range i).flatMap (fun (i : Nat) => if (i : Int) ∈ xs then [] else ext N f (xs ++ [(i : Int)])) = es at *
      simp (disch := first | omega | decide | (simp only [List.length_cons, List.length_nil] <;> omega)) only [push_cast, ↓reduceIte, Nat.reduceLT, Nat.reduceEqDiff, reduceCtorEq, Nat.reduceAdd, if_true, if_false, true_and, and_true, kn, kd, kt, hn, hd, ha, h16]
      refine AW.drawP (.take 0 [12, 11, 10, 9, 8, 7, 6, 5, 4, 3, 2] (.take 1 [12, 11, 10, 9, 8, 7, 6, 5, 4, 3, 2] (.only 2 (.take 3 [12, 11, 10, 9, 8, 7, 6, 5, 4] (.take 4 [12, 11, 10, 9, 8, 7, 6, 5] (.take 6 [12, 11, 10, 9] (.take 7 [12, 11, 10, 9, 8] (.watch 5 [12, 11, 10] (.only 8 (.only 9 (.only 10 (.take 11 [12] (.take 12 [] .done))))))))))))) [(0, 0), (0, 1), (2, 2), (0, 3), (0, 4), (0, 6), (0, 7), (1, 5), (2, 8), (2, 9), (2, 10), (0, 11), (0, 12)] mixed (by kernel_rfl) (by kernel_rfl) ?_
      simp (disch := first | omega | decide | (simp only [List.length_cons, List.length_nil] <;> omega)) only [push_cast, ↓reduceIte, Nat.reduceLT, Nat.reduceEqDiff, reduceCtorEq, Nat.reduceAdd, if_true, if_false, true_and, and_true, kn, kd, kt, hn, hd, ha, h16, he.f.ld flY]
      refine ACall.mono ?_ (containsInt hb.sl (by omega))
      rintro _ k ⟨rfl, rfl⟩
      by_cases hm : (i : Int) ∈ xs
      · rw [if_pos hm, List.append_nil] at hrange
        simp (disch := first | omega | decide | (simp only [List.length_cons, List.length_nil] <;> omega)) only [push_cast, ↓reduceIte, Nat.reduceLT, Nat.reduceEqDiff, reduceCtorEq, Nat.reduceAdd, if_true, if_false, true_and, and_true, kn, kd, kt, hn, hd, ha, h16, hm, he.f.ld flY, hw]
        exact ⟨m - 1, by omega, (by simp (disch := decide) only [Kp_put, put_none, hk]), i + 1, by simp (disch := first | omega | decide | (simp only [List.length_cons, List.length_nil] <;> omega)) only [push_cast, ↓reduceIte, Nat.reduceLT, Nat.reduceEqDiff, reduceCtorEq, Nat.reduceAdd, if_true, if_false, true_and, and_true], by omega, hwf, he, hb, by rw [hrange]; exact hI⟩
      · rw [if_neg hm] at hrange
        have g1 := (Gr.refl hwf).new (.row [.int .i64 i] 3 true)
        obtain ⟨cs, hA, hcl, hct⟩ := hb
        have hA1 := g1.sub _ _ hA
        have hAlt := AH.get_lt hwf hA
        have hD : (k.new (.row [.int .i64 i] 3 true)).get k.next = some (.row [.int .i64 i] 3 true) := by rw [AH.new_get, if_pos rfl]
        have happ := appFit (n := xs.length) (C := N) hA1 (by omega) (by omega) (by omega) hD rfl
        have x2 : Ex A k ((k.new (.row [.int .i64 i] 3 true)).set A (.row (cs.set xs.length (.int .i64 i)) 3 true)) :=
          ⟨g1.wf.set (by simp; omega) _, by simp, fun B o hB hne => by rw [AH.set_get, if_neg hne]; exact g1.sub _ _ hB⟩
        have he2 := he.ex x2 d1 d2 d3
        have hb2 : Base N A (xs ++ [(i : Int)]) ((k.new (.row [.int .i64 i] 3 true)).set A (.row (cs.set xs.length (.int .i64 i)) 3 true)) := by
          refine ⟨_, by rw [AH.set_get, if_pos rfl], by simpa using hcl, ?_⟩
          rw [List.length_append, List.length_singleton, List.map_append, List.map_singleton, ← hct]
          apply List.ext_getElem?
          intro j
          rw [List.getElem?_take]
          by_cases h1 : j < xs.length
          · rw [if_pos (by omega), List.getElem?_set_ne (by omega), List.getElem?_append_left (by simp; omega), List.getElem?_take, if_pos h1]
          · by_cases h2 : j = xs.length
            · subst h2
              rw [if_pos (by omega), List.getElem?_set_self (by omega), List.getElem?_append_right (by simp; omega)]
              simp [Nat.min_eq_left (show xs.length ≤ cs.length by omega)]
            · rw [if_neg (by omega), List.getElem?_eq_none (by simp; omega)]
        have hI2 := hfr _ _ _ hI x2
        have l1 := (he.f.sub g1.sub).ld (P := Tryz.prog) flY
        have l2 := he2.f.ld (P := Tryz.prog) flY
        simp (disch := first | omega | decide | (simp only [List.length_cons, List.length_nil] <;> omega)) only [push_cast, ↓reduceIte, Nat.reduceLT, Nat.reduceEqDiff, reduceCtorEq, Nat.reduceAdd, if_true, if_false, true_and, and_true, kn, kd, kt, hn, hd, ha, h16, hm, he.f.ld flY, l1, l2, aBuild1 t22 k (x := .int .i64 i) rfl rfl, happ]
        clear l1 l2
        generalize (k.new (.row [.int .i64 i] 3 true)).set A (.row (cs.set xs.length (.int .i64 i)) 3 true) = k2 at *
        have hcall := ih (xs ++ [(i : Int)]) _ k2 (by simp; omega) (by rw [hrange] at hfl; simp only [List.length_append] at hfl ⊢; omega) x2.wf he2 hb2 hI2
        rw [List.length_append, List.length_singleton] at hcall
        refine ACall.mono ?_ hcall
        rintro _ k3 ⟨rfl, w3, he3, ⟨cs3, hA3, hl3, ht3⟩, hI3⟩
        have hb3 : Base N A xs k3 := by
          refine ⟨cs3, hA3, hl3, ?_⟩
          have := congrArg (List.take xs.length) ht3
          rw [List.take_take] at this
          simpa using this
        simp (disch := first | omega | decide | (simp only [List.length_cons, List.length_nil] <;> omega)) only [push_cast, ↓reduceIte, Nat.reduceLT, Nat.reduceEqDiff, reduceCtorEq, Nat.reduceAdd, if_true, if_false, true_and, and_true, kn, kd, kt, hn, hd, ha, h16, hm, he3.f.ld flY, hw]
        exact ⟨m - 1, by omega, (by simp (disch := decide) only [Kp_put, put_none, hk]), i + 1, by simp (disch := first | omega | decide | (simp only [List.length_cons, List.length_nil] <;> omega)) only [push_cast, ↓reduceIte, Nat.reduceLT, Nat.reduceEqDiff, reduceCtorEq, Nat.reduceAdd, if_true, if_false, true_and, and_true], by omega, w3, he3, hb3, by rw [hrange, ← List.append_assoc]; exact hI3⟩
    · have hi : i = N := by have := hge; simp at this; omega
      subst hi
      simp (disch := first | omega | decide | (simp only [List.length_cons, List.length_nil] <;> omega)) only [push_cast, ↓reduceIte, Nat.reduceLT, Nat.reduceEqDiff, reduceCtorEq, Nat.reduceAdd, if_true, if_false, true_and, and_true, kn, kd, kt, hn, hd, ha, h16]
      exact ⟨hwf, he, hb, hI⟩


/-- What an iterator's rounds keep: K are the blocks that they leave alone. -/
structure Rounds (M : Nat) (yv : Value) (I : (Nat → Prop) → List (List Int) → AH → Prop) : Prop where
  fr : ∀ K acc h h', I K acc h → (∀ B o, h.get B = some o → ¬ K B → h'.get B = some o) → WFH h' → h.next ≤ h'.next → I K acc h'
  add : ∀ K acc h h', I K acc h → Gr h h' → I (fun C => K C ∨ (h.next ≤ C ∧ C < h'.next)) acc h'
  wk : ∀ (K K' : Nat → Prop) acc h, I K' acc h → (∀ C, K C → K' C) → I K acc h
  yl : ∀ K acc h0 h p pv, I K acc h0 → Gr h0 h → (∀ C off l c, pv = .slice (some ⟨C, off, none⟩) l c → h0.next ≤ C) → p.length ≤ 8 → acc.length < M → SlOf h pv (p.map (.int .i64)) → callR Tryz.prog yv [pv] h (fun r h' => r = .bool true ∧ I K (acc ++ [p]) h' ∧ WFH h' ∧ h.next ≤ h'.next ∧ ∀ B o, K B → h.get B = some o → h'.get B = some o)

theorem zrY : Zr Tryz.prog 121 [.nilFunc] := ⟨(Tryz.prog.info? 121).get (by kernel_rfl), .nilFunc, by kernel_rfl, by kernel_rfl, rfl, rfl, rfl⟩
theorem szY : ∃ i, Tryz.prog.info? 121 = some i ∧ i.size = 1 := ⟨(Tryz.prog.info? 121).get (by kernel_rfl), by kernel_rfl, by kernel_rfl⟩

/-- A store into the newest block. -/
theorem st1 {e : TypeId} (he : ∃ i, Tryz.prog.info? e = some i ∧ i.size = 1) (h : AH) {z x : Value} {t : TypeId} (hx : x.cells.toList = [x]) (ho : oneC x = true) :
    aStore Tryz.prog e (.pointer (some ⟨h.next, 0, none⟩)) x (h.new (.row [z] t true)) = some (h.new (.row [x] t true)) := by
  rw [stC he (by rw [AH.new_get, if_pos rfl]) 0 x (by simp) hx ho, AH.set_new]; rfl

theorem make0 (h : AH) {N : Nat} (hN : N ≤ 8) : aMakeSlice Tryz.prog 25 (.int .i64 0) (.int .i64 N) h = some (.slice (some ⟨h.next, 0, none⟩) 0 N, h.new (.row (List.replicate N (.int .i64 0)) 3 true)) := by
  obtain ⟨i, hi, h1, hb, hz⟩ := t22.info
  have hc : (Value.int .i64 0).cells.size = 1 := rfl
  simp only [aMakeSlice, t22.sl, hi, hz]
  rw [if_pos]
  · simp only [Int.toNat_natCast, t22.zc, zeros_one]; rfl
  · refine ⟨by omega, by omega, by simp only [Int.toNat_natCast, hb]; omega, by omega, t22.zp, by rw [hc, h1], by simp [t22.zc, t22.zo]⟩

theorem orders {h : AH} {N : Nat} (hN : N ≤ 8) :
    ACall Tryz.prog 63 [.int .i64 N] h (fun r h' => r = .func (.func 85) #[] #[.pointer (some ⟨h.next, 0, none⟩)] ∧ h' = h.new (.row [.int .i64 N] 3 true)) := by
  refine ACall.of_wp 4 [.tmp 2] Tryz.func63 rfl (by kernel_rfl) rfl rfl fun a hn hd ha => ?_
  have hbox : aBox 3 (.int .i64 N) h = some (.pointer (some ⟨h.next, 0, none⟩), h.new (.row [.int .i64 N] 3 true)) := rfl
  simp (disch := first | omega | decide | (simp only [List.length_cons, List.length_nil] <;> omega)) only [push_cast, ↓reduceIte, Nat.reduceLT, Nat.reduceEqDiff, reduceCtorEq, Nat.reduceAdd, if_true, if_false, true_and, and_true, hn, hd, ha, hbox]

theorem orders1 {h : AH} {N P1 : Nat} {yv : Value} {I : (Nat → Prop) → List (List Int) → AH → Prop} {K : Nat → Prop} (hN : N ≤ 8) (hP : CsAt h P1 [.int .i64 N]) (hy1 : yv.cells.toList = [yv]) (hy2 : oneC yv = true) (R : Rounds (ext N N []).length yv I) (hI : I K [] h) (hK : K P1) (hKlt : ∀ C, K C → C < h.next) :
    ACall Tryz.prog 85 [yv, .pointer (some ⟨P1, 0, none⟩)] h (fun _ h' => I K (ext N N []) h' ∧ WFH h' ∧ h.next ≤ h'.next ∧ ∀ B o, K B → h.get B = some o → h'.get B = some o) := by
  refine ACall.wf ⟨_, Tryz.func85, rfl, by kernel_rfl⟩ fun hwf => ?_
  refine ACall.of_wp 9 [] Tryz.func85 rfl (by kernel_rfl) rfl rfl fun a hn hd ha => ?_
  have hbox : aBox 121 yv h = some (.pointer (some ⟨h.next, 0, none⟩), h.new (.row [yv] 121 true)) := by
    simp [aBox, hy1, hy2]
  have g1 := (Gr.refl hwf).new (.row [yv] 121 true)
  have hst := st1 szY (h.new (.row [yv] 121 true)) (z := .nilFunc) (x := .func (.func 86) #[] #[.pointer (some ⟨P1, 0, none⟩), .pointer (some ⟨h.next, 0, none⟩), .pointer (some ⟨h.next + 1, 0, none⟩)]) (t := 121) rfl rfl
  simp (disch := first | omega | decide | (simp only [List.length_cons, List.length_nil] <;> omega)) only [push_cast, ↓reduceIte, Nat.reduceLT, Nat.reduceEqDiff, reduceCtorEq, Nat.reduceAdd, if_true, if_false, true_and, and_true, AH.new_next] at hst
  have g2 := g1.new (.row [.func (.func 86) #[] #[.pointer (some ⟨P1, 0, none⟩), .pointer (some ⟨h.next, 0, none⟩), .pointer (some ⟨h.next + 1, 0, none⟩)]] 121 true)
  have c2 := (CsAt.new h [yv] 121 true).sub (Sub.new g1.wf (.row [.func (.func 86) #[] #[.pointer (some ⟨P1, 0, none⟩), .pointer (some ⟨h.next, 0, none⟩), .pointer (some ⟨h.next + 1, 0, none⟩)]] 121 true))
  have c3 := CsAt.new (h.new (.row [yv] 121 true)) [.func (.func 86) #[] #[.pointer (some ⟨P1, 0, none⟩), .pointer (some ⟨h.next, 0, none⟩), .pointer (some ⟨h.next + 1, 0, none⟩)]] 121 true
  have n2 : ((h.new (.row [yv] 121 true)).new (.row [.func (.func 86) #[] #[.pointer (some ⟨P1, 0, none⟩), .pointer (some ⟨h.next, 0, none⟩), .pointer (some ⟨h.next + 1, 0, none⟩)]] 121 true)).next = h.next + 2 := rfl
  simp (disch := first | omega | decide | (simp only [List.length_cons, List.length_nil] <;> omega)) only [push_cast, ↓reduceIte, Nat.reduceLT, Nat.reduceEqDiff, reduceCtorEq, Nat.reduceAdd, if_true, if_false, true_and, and_true, hn, hd, ha, hbox, alL zrY, hst, AH.new_next]
  rw [AH.new_next] at c3
  generalize (h.new (.row [yv] 121 true)).new (.row [.func (.func 86) #[] #[.pointer (some ⟨P1, 0, none⟩), .pointer (some ⟨h.next, 0, none⟩), .pointer (some ⟨h.next + 1, 0, none⟩)]] 121 true) = k at g2 c2 c3 n2 ⊢
  refine AW.drawT (.take 0 [3] (.take 1 [3, 2] (.only 2 (.only 3 .done)))) [0, 0, 2, 2] mixed (by kernel_rfl) (by kernel_rfl) ?_
  have c1 := hP.sub g2.sub
  have hm := make0 k hN
  simp (disch := first | omega | decide | (simp only [List.length_cons, List.length_nil] <;> omega)) only [push_cast, ↓reduceIte, Nat.reduceLT, Nat.reduceEqDiff, reduceCtorEq, Nat.reduceAdd, if_true, if_false, true_and, and_true, hn, hd, ha, c3.ld flY, c1.ld fl3, hm]
  have g3 := g2.new (.row (List.replicate N (.int .i64 0)) 3 true)
  have hkA : k.next < (k.new (.row (List.replicate N (.int .i64 0)) 3 true)).next := by simp
  have c1' := c1.sub (Sub.new g2.wf (.row (List.replicate N (.int .i64 0)) 3 true))
  have c2' := c2.sub (Sub.new g2.wf (.row (List.replicate N (.int .i64 0)) 3 true))
  have c3' := c3.sub (Sub.new g2.wf (.row (List.replicate N (.int .i64 0)) 3 true))
  have hbase : Base N k.next [] (k.new (.row (List.replicate N (.int .i64 0)) 3 true)) := ⟨_, by rw [AH.new_get, if_pos rfl], by simp, rfl⟩
  have i1 := R.add _ _ _ _ hI g3
  generalize k.new (.row (List.replicate N (.int .i64 0)) 3 true) = k3 at *
  have hPlt : P1 < h.next := let ⟨o, x, _⟩ := hP; AH.get_lt hwf x
  have hcall := inner (N := N) (P1 := P1) (P2 := h.next) (P3 := h.next + 1) (A := k.next) (yv := yv)
    (I := fun acc h1 => I (fun C => K C ∨ (h.next ≤ C ∧ C < k3.next)) acc h1 ∧ k3.next ≤ h1.next ∧ ∀ B o, K B → h.get B = some o → h1.get B = some o) (M := (ext N N []).length) hN (by omega) (by omega) (by omega)
    (fun acc h1 h2 hi hx => ⟨R.fr _ _ _ _ hi.1 (fun B o hB hnK => hx.keep B o hB (fun e => hnK (.inr ⟨by omega, by omega⟩))) hx.wf hx.nx, Nat.le_trans hi.2.1 hx.nx, fun B o hKB hB => hx.keep B o (hi.2.2 B o hKB hB) (fun e => by have := AH.get_lt hwf hB; omega)⟩)
    (fun acc h1 h1' p pv xs hi hgr hfresh hpl hml hw he hb hpv => callR.mono (fun r h2 hq => ⟨hq.1, ⟨hq.2.1, Nat.le_trans hi.2.1 (Nat.le_trans hgr.nx hq.2.2.2.1), fun B o hKB hB => hq.2.2.2.2 B o (.inl hKB) (hgr.sub _ _ (hi.2.2 B o hKB hB))⟩, hq.2.2.1,
      ⟨let ⟨o, x, y⟩ := he.n; ⟨o, hq.2.2.2.2 _ o (.inl hK) x, y⟩, let ⟨o, x, y⟩ := he.y; ⟨o, hq.2.2.2.2 _ o (.inr ⟨by omega, by omega⟩) x, y⟩, let ⟨o, x, y⟩ := he.f; ⟨o, hq.2.2.2.2 _ o (.inr ⟨by omega, by omega⟩) x, y⟩⟩,
      let ⟨cs, x, y, z⟩ := hb; ⟨cs, hq.2.2.2.2 _ _ (.inr ⟨by omega, by omega⟩) x, y, z⟩⟩) (R.yl _ _ _ _ _ _ hi.1 hgr hfresh hpl hml hpv))
    N [] [] k3 (by simp) (by simp) g3.wf ⟨c1', c2', c3'⟩ hbase ⟨i1, Nat.le_refl _, fun B o _ hB => g3.sub B o hB⟩
  refine ACall.mono ?_ hcall
  rintro _ k4 ⟨rfl, w4, -, -, hi4, hn4, hk4⟩
  simp (disch := first | omega | decide | (simp only [List.length_cons, List.length_nil] <;> omega)) only [push_cast, ↓reduceIte, Nat.reduceLT, Nat.reduceEqDiff, reduceCtorEq, Nat.reduceAdd, if_true, if_false, true_and, and_true, hn, hd, ha]
  exact ⟨R.wk _ _ _ _ hi4 (fun C hC => .inl hC), w4, Nat.le_trans g3.nx hn4, hk4⟩


theorem wpA_rangeFunc {P : Program} {rd : Option Nat} {g : Operand} {ps : Array Tmp} {x y : Code} {Q : Exit → AAct → AH → Prop} {a : AAct} {h : AH} : wpA P rd (.rangeFunc g ps x y) Q a h = AW P rd (.rangeFunc g ps x y) Q a h := rfl

theorem smB : SlM Tryz.prog 75 81 2 32 := ⟨Tryz.underlying75, ⟨(Tryz.prog.info? 81).get (by kernel_rfl), .agg #[.int .i64 0, .slice none 0 0], by kernel_rfl, by kernel_rfl, by kernel_rfl, by kernel_rfl, rfl, rfl, rfl⟩, by decide⟩
theorem agB : Ag Tryz.prog 81 2 := ⟨⟨_, Tryz.underlying81, rfl⟩, ⟨(Tryz.prog.info? 81).get (by kernel_rfl), by kernel_rfl, by kernel_rfl⟩⟩
theorem foB0 : fOff Tryz.prog 81 0 = some 0 := by kernel_rfl
theorem foB1 : fOff Tryz.prog 81 1 = some 1 := by kernel_rfl
theorem flB : Fl Tryz.prog 75 := ⟨_, Tryz.underlying75, rfl⟩
theorem szB : ∃ i, Tryz.prog.info? 75 = some i ∧ i.size = 1 := ⟨(Tryz.prog.info? 75).get (by kernel_rfl), by kernel_rfl, by kernel_rfl⟩
theorem zrB : Zr Tryz.prog 75 [.slice none 0 0] := ⟨(Tryz.prog.info? 75).get (by kernel_rfl), .slice none 0 0, by kernel_rfl, by kernel_rfl, rfl, rfl, rfl⟩
theorem zr3 : Zr Tryz.prog 3 [.int .i64 0] := ⟨(Tryz.prog.info? 3).get (by kernel_rfl), .int .i64 0, by kernel_rfl, by kernel_rfl, rfl, rfl, rfl⟩

theorem buildB {i : Int} {pv : Value} (hp : pv.cells.toList = [pv]) : aBuild Tryz.prog 81 [(0, .int .i64 i), (1, pv)] = some (.agg #[.int .i64 i, pv]) := by
  obtain ⟨ie, z, h1, h2, _, h4, h5, _, h7⟩ := smB.info
  have hz : ∃ i, Tryz.prog.info? 81 = some i ∧ i.zero = some (.agg #[.int .i64 0, .slice none 0 0]) := ⟨(Tryz.prog.info? 81).get (by kernel_rfl), by kernel_rfl, by kernel_rfl⟩
  obtain ⟨ib, hb1, hb2⟩ := hz
  have hs : ∃ fs, Tryz.prog.underlying 81 = some (.struct fs) ∧ sizesOf Tryz.prog fs.toList = some [(0, 1), (1, 1)] := ⟨_, Tryz.underlying81, by kernel_rfl⟩
  obtain ⟨fs, hf1, hf2⟩ := hs
  have hc : pv.cells.size = 1 := by
    have := congrArg List.length hp
    simpa using this
  have hc0 : (Value.int .i64 i).cells = #[.int .i64 i] := rfl
  have hcz : (Value.agg #[.int .i64 0, .slice none 0 0]).cells = #[.int .i64 0, .slice none 0 0] := rfl
  have hpl : plain 9 (.agg #[.int .i64 0, .slice none 0 0]) = true := rfl
  simp only [aBuild, hb1, hb2, hf1, hf2, hpl]
  simp [fillL, hcz, hc0, hc, hp, setL]

/-! ### The part of a heap that the rounds may use -/

open Classical in
noncomputable def hide (K : Nat → Prop) (h : AH) : AH := { next := h.next, get := fun B => if K B then none else h.get B }

theorem hide_get {K : Nat → Prop} {h : AH} {B : Nat} {o : AObj} : (hide K h).get B = some o ↔ ¬ K B ∧ h.get B = some o := by
  unfold hide
  by_cases hk : K B <;> simp [hk]
theorem hide_sub (K : Nat → Prop) (h : AH) : Sub (hide K h) h := fun _ _ x => (hide_get.1 x).2

theorem SlOf_hide {K : Nat → Prop} {h : AH} {v : Value} {vs : List Value} (hs : SlOf h v vs) (hf : ∀ C off l c, v = .slice (some ⟨C, off, none⟩) l c → ¬ K C) : SlOf (hide K h) v vs := by
  obtain ⟨p, l, c, rfl, hl, hsp, hcs⟩ := hs
  refine ⟨p, l, c, rfl, hl, hsp, ?_⟩
  rcases hcs with e | ⟨A, off, o, cs, rfl, hg, hc, hall⟩
  · exact .inl e
  · exact .inr ⟨A, off, o, cs, rfl, hide_get.2 ⟨hf _ _ _ _ rfl, hg⟩, hc, hall⟩

/-- The bindings that were found, as a row. -/
def BindV (h : AH) (v : Value) (ob : Option AObj) (A : Nat) (bs : List (Int × List Int)) : Prop :=
  ∃ zs, VecM 2 81 v ob A bs.length zs ∧ (∀ o, ob = some o → h.get A = some o) ∧ ∀ (i : Nat) (x : Int × List Int), bs[i]? = some x → ∃ pv, (zs.drop (i * 2)).take 2 = [.int .i64 x.1, pv] ∧ SlOf h pv (x.2.map (.int .i64))

theorem BindV.sub {h h' : AH} {v : Value} {ob : Option AObj} {A : Nat} {bs : List (Int × List Int)} (hb : BindV h v ob A bs) (s : Sub h h') : BindV h' v ob A bs := by
  obtain ⟨zs, h1, h2, h3⟩ := hb
  exact ⟨zs, h1, fun o e => s _ _ (h2 o e), fun i x hx => let ⟨pv, e, hs⟩ := h3 i x hx; ⟨pv, e, hs.sub s⟩⟩

/-- The bindings that were found, as a row; the pins lie in other blocks than X and the row. -/
def BindX (X : Nat) (h : AH) (v : Value) (ob : Option AObj) (A : Nat) (bs : List (Int × List Int)) : Prop :=
  ∃ zs, VecM 2 81 v ob A bs.length zs ∧ (∀ o, ob = some o → h.get A = some o) ∧ ∀ (i : Nat) (x : Int × List Int), bs[i]? = some x → ∃ pv, (zs.drop (i * 2)).take 2 = [.int .i64 x.1, pv] ∧ SlOf (hide (fun C => C = X ∨ C = A) h) pv (x.2.map (.int .i64))

theorem hide_mono {K : Nat → Prop} {h h' : AH} (s : Sub h h') : Sub (hide K h) (hide K h') := fun B o x => hide_get.2 ⟨(hide_get.1 x).1, s _ _ (hide_get.1 x).2⟩

theorem BindX.sub {X : Nat} {h h' : AH} {v : Value} {ob : Option AObj} {A : Nat} {bs : List (Int × List Int)} (hb : BindX X h v ob A bs) (s : Sub h h') : BindX X h' v ob A bs := by
  obtain ⟨zs, h1, h2, h3⟩ := hb
  exact ⟨zs, h1, fun o e => s _ _ (h2 o e), fun i x hx => let ⟨pv, e, hs⟩ := h3 i x hx; ⟨pv, e, hs.sub (hide_mono s)⟩⟩
theorem SlOf_away {K : Nat → Prop} {h : AH} {v : Value} {vs : List Value} (hs : SlOf h v vs) (hf : ∀ C off l c, v = .slice (some ⟨C, off, none⟩) l c → ¬ K C) : SlOf (hide K h) v vs := SlOf_hide hs hf
theorem BindX.v {X : Nat} {h : AH} {v : Value} {ob : Option AObj} {A : Nat} {bs : List (Int × List Int)} (hb : BindX X h v ob A bs) : BindV h v ob A bs := by
  obtain ⟨zs, h1, h2, h3⟩ := hb
  exact ⟨zs, h1, h2, fun i x hx => let ⟨pv, e, hs⟩ := h3 i x hx; ⟨pv, e, hs.sub (hide_sub _ _)⟩⟩

/-- What stands between the rounds of Match. -/
structure MF (L Tb B11 B12 : Nat) (l0 : ALoop) (i : Int) (cc : List Value) (b : AH) (bs : List (Int × List Int)) (g : AH) : Prop where
  lp : g.get L = some (.loop l0)
  b11 : CsAt g B11 [.int .i64 i]
  b12 : CsAt g B12 cc
  sub : Sub b g
  tb : ∃ rv ob A, g.get Tb = some (.row [rv] 75 true) ∧ BindX Tb g rv ob A bs ∧ (∀ o, ob = some o → A ≠ L ∧ A ≠ Tb ∧ A ≠ B11 ∧ A ≠ B12 ∧ b.next ≤ A)

theorem MF.mono {L Tb B11 B12 : Nat} {l0 : ALoop} {i : Int} {cc : List Value} {b : AH} {bs : List (Int × List Int)} {g g' : AH} (m : MF L Tb B11 B12 l0 i cc b bs g) (s : Sub g g') : MF L Tb B11 B12 l0 i cc b bs g' := by
  obtain ⟨rv, ob, A, h1, h2, h3⟩ := m.tb
  exact ⟨s _ _ m.lp, m.b11.sub s, m.b12.sub s, m.sub.trans s, rv, ob, A, s _ _ h1, h2.sub s, h3⟩

/-- The invariant of the rounds, for what has been yielded. -/
def MI (F : List (List Int) → AH → Prop) (K : Nat → Prop) (acc : List (List Int)) (h : AH) : Prop := WFH h ∧ (∀ C, K C → C < h.next) ∧ F acc (hide K h)

theorem MI.rounds {M : Nat} {yv : Value} {F : List (List Int) → AH → Prop} (hF : ∀ acc g g', F acc g → Sub g g' → F acc g')
    (hy : ∀ K acc h0 h p pv, WFH h0 → (∀ C, K C → C < h0.next) → F acc (hide K h0) → Gr h0 h → (∀ C off l c, pv = .slice (some ⟨C, off, none⟩) l c → h0.next ≤ C) → p.length ≤ 8 → acc.length < M → SlOf h pv (p.map (.int .i64)) →
      callR Tryz.prog yv [pv] h (fun r h' => r = .bool true ∧ F (acc ++ [p]) (hide K h') ∧ WFH h' ∧ h.next ≤ h'.next ∧ ∀ B o, K B → h.get B = some o → h'.get B = some o)) : Rounds M yv (MI F) where
  fr := fun K acc h h' hI hk hw hn => ⟨hw, fun C hC => Nat.lt_of_lt_of_le (hI.2.1 C hC) hn, hF _ _ _ hI.2.2 (fun B o hB => by
    obtain ⟨h1, h2⟩ := hide_get.1 hB
    exact hide_get.2 ⟨h1, hk B o h2 h1⟩)⟩
  add := fun K acc h h' hI hg => ⟨hg.wf, fun C hC => by
      rcases hC with hC | hC
      · exact Nat.lt_of_lt_of_le (hI.2.1 C hC) hg.nx
      · exact hC.2, hF _ _ _ hI.2.2 (fun B o hB => by
      obtain ⟨h1, h2⟩ := hide_get.1 hB
      have := AH.get_lt hI.1 h2
      exact hide_get.2 ⟨by rintro (hC | hC); exact h1 hC; omega, hg.sub _ _ h2⟩)⟩
  wk := fun K K' acc h hI hk => ⟨hI.1, fun C hC => hI.2.1 C (hk C hC), hF _ _ _ hI.2.2 (fun B o hB => by
    obtain ⟨h1, h2⟩ := hide_get.1 hB
    exact hide_get.2 ⟨fun hC => h1 (hk B hC), h2⟩)⟩
  yl := fun K acc h0 h p pv hI hg hf hpl hml hs => callR.mono (fun r h' hq => ⟨hq.1, ⟨hq.2.2.1, fun C hC => Nat.lt_of_lt_of_le (hI.2.1 C hC) (Nat.le_trans hg.nx hq.2.2.2.1), hq.2.1⟩, hq.2.2.1, hq.2.2.2.1, hq.2.2.2.2⟩) (hy K acc h0 h p pv hI.1 hI.2.1 hI.2.2 hg hf hpl hml hs)

end Go.Ab.S1

namespace Go.Ab.S1
open Go.Proofs
set_option linter.unusedSimpArgs false
set_option linter.unusedVariables false
set_option maxRecDepth 100000
set_option maxHeartbeats 4000000
attribute [local push_cast] wpA_skip wpA_ret wpA_exit wpA_seq wpA_block wpA_cond2 andK_true wpA_region wpA_draw wpA_loop thenQ_normal thenQ_ret thenQ_exit blockQ_normal blockQ_ret blockQ_exit condV_true condV_false opsM_nil opsM_cons2 okM_true wantM_true wantM_false stepM seqM_cons2 seqM_nil2 okS_true wantS_true wantS_false stepS skipS okB Keeps_nil contK_app List.zip_cons_cons List.zip_nil_left List.zip_nil_right Op.operands Call.operands Array.toList_append List.append_nil List.nil_append List.all_cons List.all_nil cOK plain put_n put_tm put_none put_df ev_tmp ev_const ev_func wanted_none wanted_some callR_func dop ex_some1 aBuiltin aBin intBin aUn Option.map_some Bool.and_true Bool.true_and Bool.and_self List.map_cons List.map_nil List.toList_toArray List.getElem?_toArray List.getElem?_cons_zero List.getElem?_cons_succ Option.getD_some Option.getD_none Bool.false_eq_true eq_self_iff_true decide_true decide_false List.cons_append aExtract resL resV List.getD_cons_zero List.getD_cons_succ List.getD_nil Nat.succ_ne_self g1 g2 yieldedA2 isB_bool isB_undef g3 Option.bind_some Option.bind_none bne_self_eq_false beq_self_eq_true Bool.not_true Bool.not_false Int.toNat_natCast List.length_map List.mem_cons List.not_mem_nil or_false not_false_eq_true decide_not Bool.not_not bodyR_ret2 bodyR_normal2 closeMarks_nil ex_some0 Nat.zero_add Nat.add_zero ieq ine List.map_toArray Option.toArray_none Option.toArray_some oev Keeps_cons Still_eq selL wpX_skip wpX_ret wpX_exit wpX_seq wpX_block wpX_cond wpX_region wpX_draw wpX_loop List.take_succ_cons List.take_zero List.drop_succ_cons List.drop_zero Int.zero_add Int.add_zero aNil
attribute [local push_cast] wpA_rangeFunc

theorem rangeN {P : Program} {g : Operand} {ps : Array Tmp} {assign body : Code} {Q : Exit → AAct → AH → Prop} {a : AAct} {h : AH} {gf : FuncId} {first cap : Array Value} (hc : cOK g = true) (hev : a.ev g = .func (.func gf) first cap)
    (hk : ∀ l0 : ALoop, l0.state = .ready → l0.pending = none → l0.n = a.n → l0.tm = a.tm → l0.params = ps → l0.assign = assign → l0.body = body →
      ACall P gf (first.toList ++ [.func (.yield (h.next + 1)) #[] #[]] ++ cap.toList) ((h.new (.dfr true)).new (.loop l0)) (rangeQ P none (h.next + 1) { a with df := h.next :: a.df } Q)) : AW P none (.rangeFunc g ps assign body) Q a h :=
  AW.rangeFunc ⟨gf, first, cap, hc, hev, hk _ rfl rfl rfl rfl rfl rfl rfl⟩

def hitE (t tt : Int) (N : Nat) (p : List Int) : Bool := decide ((if validE t N = true ∧ permE p N = true then permuteE t N p else 0) = tt)
def cellM (tt : Int) (N : Nat) (t : Int) (j : Nat) (ps : List (List Int)) : List (Int × List Int) := (ps.filter (hitE t tt N)).map fun p => ((j : Int), p)
theorem cellM_le (tt : Int) (N : Nat) (t : Int) (j : Nat) (ps : List (List Int)) : (cellM tt N t j ps).length ≤ ps.length := by
  unfold cellM; rw [List.length_map]; exact List.length_filter_le _ _
theorem ext_le {N : Nat} (hN : N ≤ 4) : (ext N N []).length ≤ 24 := by
  have : N = 0 ∨ N = 1 ∨ N = 2 ∨ N = 3 ∨ N = 4 := by omega
  rcases this with rfl | rfl | rfl | rfl | rfl <;> decide
def matchGo (tt : Int) (N : Nat) : Nat → List Cell → List (Int × List Int)
  | _, [] => []
  | j, c :: cs => (if c.pins = N then cellM tt N c.table j (ext N N []) else []) ++ matchGo tt N (j + 1) cs
def matchE (l : List Cell) (tt : Int) (N : Nat) : Int := if (cellsE l).2 ≠ 0 then (cellsE l).2 else if N > 4 ∨ validE tt N = false then 1 else 0

theorem closeMarks_ok : ∀ (D : List Nat) (h : AH), WFH h → (∀ d ∈ D, h.get d = some (.dfr true)) → D.Nodup → ∃ h', closeMarks D h = some h' ∧ h'.next = h.next ∧ WFH h' ∧ ∀ B, B ∉ D → h'.get B = h.get B := by
  intro D
  induction D with
  | nil => intro h hw _ _; exact ⟨h, rfl, rfl, hw, fun _ _ => rfl⟩
  | cons d D ih =>
    intro h hw hd hn
    obtain ⟨hn1, hn2⟩ := List.nodup_cons.1 hn
    have h0 := hd d (List.mem_cons_self ..)
    obtain ⟨h', e1, e2, e3, e4⟩ := ih (h.set d (.dfr false)) (hw.set (AH.get_lt hw h0) _) (fun x hx => by
      rw [AH.set_get, if_neg (by rintro rfl; exact hn1 hx)]; exact hd x (List.mem_cons_of_mem _ hx)) hn2
    refine ⟨h', ?_, e2, e3, fun B hB => ?_⟩
    · simp only [closeMarks, h0]; exact e1
    · rw [e4 B (fun hx => hB (List.mem_cons_of_mem _ hx)), AH.set_get, if_neg (by rintro rfl; exact hB (List.mem_cons_self ..))]

theorem info3' : ∃ i, Tryz.prog.info? 3 = some i ∧ i.size = 1 := ⟨(Tryz.prog.info? 3).get (by kernel_rfl), by kernel_rfl, by kernel_rfl⟩

/-- Blocks that hold cells stay. -/
def SubC (h h' : AH) : Prop := ∀ B o cs, h.get B = some o → o.cells? = some cs → h'.get B = some o

theorem SlOf_subC {h h' : AH} {v : Value} {vs : List Value} (hs : SlOf h v vs) (s : SubC h h') : SlOf h' v vs := by
  obtain ⟨p, l, c, rfl, hl, hsp, hcs⟩ := hs
  refine ⟨p, l, c, rfl, hl, hsp, ?_⟩
  rcases hcs with e | ⟨A, off, o, cs, rfl, hg, hc, hall⟩
  · exact .inl e
  · exact .inr ⟨A, off, o, cs, rfl, s _ _ _ hg hc, hc, hall⟩

theorem BindV.subC {h h' : AH} {v : Value} {ob : Option AObj} {A : Nat} {bs : List (Int × List Int)} (hb : BindV h v ob A bs) (s : SubC h h') : BindV h' v ob A bs := by
  obtain ⟨zs, h1, h2, h3⟩ := hb
  refine ⟨zs, h1, fun o e => ?_, fun i x hx => let ⟨pv, e, hs⟩ := h3 i x hx; ⟨pv, e, SlOf_subC hs s⟩⟩
  obtain ⟨_, ⟨_, _, h4⟩ | ⟨_, _, h4⟩ | ⟨_, h4⟩⟩ := h1
  · rw [h4] at e; cases e
  · rw [h4] at e; cases e; exact s _ _ [] (h2 _ h4) rfl
  · rw [h4] at e; cases e; exact s _ _ zs (h2 _ h4) rfl

theorem hideC {K : Nat → Prop} {h h' : AH} (s : SubC h h') : SubC (hide K h) (hide K h') := fun B o cs x y => hide_get.2 ⟨(hide_get.1 x).1, s _ _ _ (hide_get.1 x).2 y⟩
theorem BindX.subC {X : Nat} {h h' : AH} {v : Value} {ob : Option AObj} {A : Nat} {bs : List (Int × List Int)} (hb : BindX X h v ob A bs) (s : SubC h h') : BindX X h' v ob A bs := by
  obtain ⟨zs, h1, h2, h3⟩ := hb
  refine ⟨zs, h1, fun o e => ?_, fun i x hx => let ⟨pv, e, hs⟩ := h3 i x hx; ⟨pv, e, SlOf_subC hs (hideC s)⟩⟩
  obtain ⟨_, ⟨_, _, h4⟩ | ⟨_, _, h4⟩ | ⟨_, h4⟩⟩ := h1
  · rw [h4] at e; cases e
  · rw [h4] at e; cases e; exact s _ _ [] (h2 _ h4) rfl
  · rw [h4] at e; cases e; exact s _ _ zs (h2 _ h4) rfl

theorem lay2 {k : AH} (hw : WFH k) (z0 x : Value) (zc cs : List Value) (t0 T : TypeId) :
    Gr k ((((k.new (.row [z0] t0 true)).new (.row zc T true)).set k.next (.row [x] t0 true)).set (k.next + 1) (.row cs T true)) ∧
    CsAt ((((k.new (.row [z0] t0 true)).new (.row zc T true)).set k.next (.row [x] t0 true)).set (k.next + 1) (.row cs T true)) k.next [x] ∧
    CsAt ((((k.new (.row [z0] t0 true)).new (.row zc T true)).set k.next (.row [x] t0 true)).set (k.next + 1) (.row cs T true)) (k.next + 1) cs := by
  have g := ((Gr.refl hw).new (.row [z0] t0 true)).new (.row zc T true)
  have g1 := g.set hw (A := k.next) (Nat.le_refl _) (by simp; omega) (.row [x] t0 true)
  have g2 := g1.set hw (A := k.next + 1) (by omega) (by simp) (.row cs T true)
  refine ⟨g2, ⟨_, by rw [AH.set_get, if_neg (by omega), AH.set_get, if_pos rfl], rfl⟩, ⟨_, by rw [AH.set_get, if_pos rfl], rfl⟩⟩

/-- What stands between Match's cells. -/
def MatchI (h b : AH) (v : Value) (l : List Cell) (tt : Int) (N : Nat) (m : Nat) (a' : AAct) (h' : AH) : Prop :=
  ∃ (j : Nat) (D : List Nat) (bs : List (Int × List Int)) (rv : Value) (ob : Option AObj) (A : Nat), a'.n = 65 ∧ a'.df = D ∧ a'.tm 34 = .int .i64 j ∧ a'.tm 33 = .int .i64 l.length ∧ a'.tm 32 = v ∧ a'.tm 4 = .pointer (some ⟨h.next, 0, none⟩) ∧ a'.tm 5 = .pointer (some ⟨h.next + 1, 0, none⟩) ∧ a'.tm 10 = .pointer (some ⟨b.next, 0, none⟩) ∧ j + m = l.length ∧
      Gr b h' ∧ h'.get b.next = some (.row [rv] 75 true) ∧ BindX b.next h' rv ob A bs ∧ (∀ o, ob = some o → b.next < A) ∧ bs ++ matchGo tt N j (l.drop j) = matchGo tt N 0 l ∧ (∀ d ∈ D, h'.get d = some (.dfr true) ∧ b.next < d) ∧ D.Nodup ∧ bs.length ≤ 24 * j

theorem matchN {h : AH} {v : Value} {l : List Cell} {tt : Int} {N : Nat} (hv : RowOf cellL h v l) (hok : ∀ c ∈ l, CellOK c) (h0 : 0 ≤ tt) (h1 : tt < 18446744073709551616) (hN : N ≤ 6) (hl : l.length ≤ 4294967296) :
    ACall Tryz.prog 34 [v, .int .u64 tt, .int .i64 N] h (fun r h' => Gr h h' ∧ ∃ mv, r = .tuple #[mv, .int .i64 (matchE l tt N)] ∧ ∃ ob A, BindV h' mv ob A (if matchE l tt N = 0 then matchGo tt N 0 l else [])) := by
  refine ACall.wf ⟨_, Tryz.func34, rfl, by kernel_rfl⟩ fun hwf => ?_
  refine ACall.of_wp 65 [.tmp 6, .tmp 7] Tryz.func34 rfl (by kernel_rfl) rfl rfl fun a hn hd ha => ?_
  have hbox1 : aBox 37 (.int .u64 tt) h = some (.pointer (some ⟨h.next, 0, none⟩), h.new (.row [.int .u64 tt] 37 true)) := rfl
  have g1 := (Gr.refl hwf).new (.row [.int .u64 tt] 37 true)
  have hbox2 : aBox 3 (.int .i64 N) (h.new (.row [.int .u64 tt] 37 true)) = some (.pointer (some ⟨h.next + 1, 0, none⟩), (h.new (.row [.int .u64 tt] 37 true)).new (.row [.int .i64 N] 3 true)) := rfl
  have g2 := g1.new (.row [.int .i64 N] 3 true)
  have b4 := (CsAt.new h [.int .u64 tt] 37 true).sub (Sub.new g1.wf (.row [.int .i64 N] 3 true))
  have b5 := CsAt.new (h.new (.row [.int .u64 tt] 37 true)) [.int .i64 N] 3 true
  rw [AH.new_next] at b5
  simp (disch := first | omega | decide | (simp only [List.length_cons, List.length_nil] <;> omega)) only [push_cast, ↓reduceIte, Nat.reduceLT, Nat.reduceEqDiff, reduceCtorEq, Nat.reduceAdd, if_true, if_false, true_and, and_true, hn, hd, ha, hbox1, hbox2]
  have hnx : ((h.new (.row [.int .u64 tt] 37 true)).new (.row [.int .i64 N] 3 true)).next = h.next + 2 := rfl
  generalize (h.new (.row [.int .u64 tt] 37 true)).new (.row [.int .i64 N] 3 true) = b at g2 b4 b5 hnx ⊢
  have nilX : ∀ X g, BindX X g (.slice none 0 0) none 0 [] := fun X g => ⟨[], ⟨rfl, .inl ⟨rfl, rfl, rfl⟩⟩, fun o e => (nomatch e), fun i x e => by simp at e⟩
  have nil0 : ∀ g, BindV g (.slice none 0 0) none 0 [] := fun g => ⟨[], ⟨rfl, .inl ⟨rfl, rfl, rfl⟩⟩, fun o e => (nomatch e), fun i x e => by simp at e⟩
  refine ACall.mono ?_ (cells (hv.sub g2.sub) hok)
  rintro _ b ⟨rfl, rfl⟩
  simp (disch := first | omega | decide | (simp only [List.length_cons, List.length_nil] <;> omega)) only [push_cast, ↓reduceIte, Nat.reduceLT, Nat.reduceEqDiff, reduceCtorEq, Nat.reduceAdd, if_true, if_false, true_and, and_true, hn, hd, ha]
  refine condV_not (fun e0 => ?_) (fun e0 => ?_)
  · have e : ¬ (cellsE l).2 = 0 := by simpa using e0
    have hE : matchE l tt N = (cellsE l).2 := by rw [matchE, if_pos e]
    simp (disch := first | omega | decide | (simp only [List.length_cons, List.length_nil] <;> omega)) only [push_cast, ↓reduceIte, Nat.reduceLT, Nat.reduceEqDiff, reduceCtorEq, Nat.reduceAdd, if_true, if_false, true_and, and_true, hn, hd, ha, hE, e]
    exact ⟨g2, _, rfl, none, 0, nil0 _⟩
  have e : (cellsE l).2 = 0 := by simpa using e0
  simp (disch := first | omega | decide | (simp only [List.length_cons, List.length_nil] <;> omega)) only [push_cast, ↓reduceIte, Nat.reduceLT, Nat.reduceEqDiff, reduceCtorEq, Nat.reduceAdd, if_true, if_false, true_and, and_true, hn, hd, ha, b5.ld fl3]
  refine wantM_not (fun e1 => ?_) (fun e1 => ?_)
  · have hE : matchE l tt N = 1 := by rw [matchE, if_neg (by simpa using e), if_pos (.inl (by simp at e1; omega))]
    simp (disch := first | omega | decide | (simp only [List.length_cons, List.length_nil] <;> omega)) only [push_cast, ↓reduceIte, Nat.reduceLT, Nat.reduceEqDiff, reduceCtorEq, Nat.reduceAdd, if_true, if_false, true_and, and_true, hn, hd, ha, e1, hE]
    exact ⟨g2, _, rfl, none, 0, nil0 _⟩
  have hN4 : N ≤ 4 := by simp at e1; omega
  simp (disch := first | omega | decide | (simp only [List.length_cons, List.length_nil] <;> omega)) only [push_cast, ↓reduceIte, Nat.reduceLT, Nat.reduceEqDiff, reduceCtorEq, Nat.reduceAdd, if_true, if_false, true_and, and_true, hn, hd, ha, e1, b5.ld fl3, b4.ld flU]
  refine ACall.mono ?_ (valid h0 h1)
  rintro _ b ⟨rfl, rfl⟩
  cases e2 : validE tt N with
  | false =>
    have hE : matchE l tt N = 1 := by rw [matchE, if_neg (by simpa using e), if_pos (.inr e2)]
    simp (disch := first | omega | decide | (simp only [List.length_cons, List.length_nil] <;> omega)) only [push_cast, ↓reduceIte, Nat.reduceLT, Nat.reduceEqDiff, reduceCtorEq, Nat.reduceAdd, if_true, if_false, true_and, and_true, hn, hd, ha, e1, e2, hE]
    exact ⟨g2, _, rfl, none, 0, nil0 _⟩
  | true =>
    have hE : matchE l tt N = 0 := by rw [matchE, if_neg (by simpa using e), if_neg (by simp [e2]; omega)]
    have r2 := hv.sub g2.sub
    simp (disch := first | omega | decide | (simp only [List.length_cons, List.length_nil] <;> omega)) only [push_cast, ↓reduceIte, Nat.reduceLT, Nat.reduceEqDiff, reduceCtorEq, Nat.reduceAdd, if_true, if_false, true_and, and_true, hn, hd, ha, e1, e2, hE, alL zrB, r2.len Tryz.underlying22]
    have wb := g2.wf
    refine AW.loop (MatchI h b v l tt N) l.length ?_ ?_
    · exact ⟨0, [], [], .slice none 0 0, none, 0, by simp (disch := first | omega | decide | (simp only [List.length_cons, List.length_nil] <;> omega)) only [push_cast, ↓reduceIte, Nat.reduceLT, Nat.reduceEqDiff, reduceCtorEq, Nat.reduceAdd, if_true, if_false, true_and, and_true, hn], by simp (disch := first | omega | decide | (simp only [List.length_cons, List.length_nil] <;> omega)) only [push_cast, ↓reduceIte, Nat.reduceLT, Nat.reduceEqDiff, reduceCtorEq, Nat.reduceAdd, if_true, if_false, true_and, and_true, hd], by simp (disch := first | omega | decide | (simp only [List.length_cons, List.length_nil] <;> omega)) only [push_cast, ↓reduceIte, Nat.reduceLT, Nat.reduceEqDiff, reduceCtorEq, Nat.reduceAdd, if_true, if_false, true_and, and_true], by simp (disch := first | omega | decide | (simp only [List.length_cons, List.length_nil] <;> omega)) only [push_cast, ↓reduceIte, Nat.reduceLT, Nat.reduceEqDiff, reduceCtorEq, Nat.reduceAdd, if_true, if_false, true_and, and_true], by simp (disch := first | omega | decide | (simp only [List.length_cons, List.length_nil] <;> omega)) only [push_cast, ↓reduceIte, Nat.reduceLT, Nat.reduceEqDiff, reduceCtorEq, Nat.reduceAdd, if_true, if_false, true_and, and_true, ha], by simp (disch := first | omega | decide | (simp only [List.length_cons, List.length_nil] <;> omega)) only [push_cast, ↓reduceIte, Nat.reduceLT, Nat.reduceEqDiff, reduceCtorEq, Nat.reduceAdd, if_true, if_false, true_and, and_true], by simp (disch := first | omega | decide | (simp only [List.length_cons, List.length_nil] <;> omega)) only [push_cast, ↓reduceIte, Nat.reduceLT, Nat.reduceEqDiff, reduceCtorEq, Nat.reduceAdd, if_true, if_false, true_and, and_true], by simp (disch := first | omega | decide | (simp only [List.length_cons, List.length_nil] <;> omega)) only [push_cast, ↓reduceIte, Nat.reduceLT, Nat.reduceEqDiff, reduceCtorEq, Nat.reduceAdd, if_true, if_false, true_and, and_true], by omega, (Gr.refl wb).new _, by rw [AH.new_get, if_pos rfl], nilX _ _, fun o e => (nomatch e), rfl, fun d hd => by simp at hd, List.nodup_nil, Nat.zero_le _⟩
    clear hn hd ha
    rintro m a1 k ⟨j, D, bs, rv, ob, A, hn, hd, h34, h33, h32, h4, h5, h10, hjm, hg, hTb, hbs, hA, hgo, hD, hDn, hbl⟩
    refine wpA_sound _ _ _ _ ?_
    simp (disch := first | omega | decide | (simp only [List.length_cons, List.length_nil] <;> omega)) only [push_cast, ↓reduceIte, Nat.reduceLT, Nat.reduceEqDiff, reduceCtorEq, Nat.reduceAdd, if_true, if_false, true_and, and_true, hn, hd, h34, h33, h32, h4, h5, h10]
    refine condV_of (fun hlt => ?_) (fun hge => ?_)
    · have hj : j < l.length := by have := hlt; simp at this; omega
      obtain ⟨cs, ⟨dv, rfl, hdv⟩, hld, -, -⟩ := r2.get hj default
      replace hld := aLoad_sub hg.sub (hld _ agC)
      generalize hc0 : l.getD j default = c at *
      have hone : [Value.string c.name, .int .i64 c.pins, .int .u64 c.table, .int .i64 c.area, dv].all oneC = true := by simp only [List.all_cons, List.all_nil, hdv.one]; rfl
      obtain ⟨g4, c11, c12⟩ := lay2 hg.wf (.int .i64 0) (.int .i64 j) [.string ByteArray.empty, .int .i64 0, .int .u64 0, .int .i64 0, .slice none 0 0] [Value.string c.name, .int .i64 c.pins, .int .u64 c.table, .int .i64 c.area, dv] 3 40
      have hs1 := stC info3' (h := (k.new (.row [.int .i64 0] 3 true)).new (.row [.string ByteArray.empty, .int .i64 0, .int .u64 0, .int .i64 0, .slice none 0 0] 40 true)) (A := k.next) (cs := [.int .i64 0]) (e' := 3) (by rw [AH.new_get, if_neg (by simp), AH.new_get, if_pos rfl]) 0 (.int .i64 j) (by simp) rfl rfl
      have hs2 := stA agC (h := ((k.new (.row [.int .i64 0] 3 true)).new (.row [.string ByteArray.empty, .int .i64 0, .int .u64 0, .int .i64 0, .slice none 0 0] 40 true)).set k.next (.row [.int .i64 j] 3 true)) (A := k.next + 1) (cs := [.string ByteArray.empty, .int .i64 0, .int .u64 0, .int .i64 0, .slice none 0 0]) (e := 40) (by rw [AH.set_get, if_neg (by omega), AH.new_get, if_pos (by simp)]) rfl _ rfl hone
      have hs1' : aStore Tryz.prog 3 (.pointer (some ⟨k.next, 0, none⟩)) (.int .i64 j) ((k.new (.row [.int .i64 0] 3 true)).new (.row [.string ByteArray.empty, .int .i64 0, .int .u64 0, .int .i64 0, .slice none 0 0] 40 true)) = some (((k.new (.row [.int .i64 0] 3 true)).new (.row [.string ByteArray.empty, .int .i64 0, .int .u64 0, .int .i64 0, .slice none 0 0] 40 true)).set k.next (.row [.int .i64 j] 3 true)) := hs1
      simp (disch := first | omega | decide | (simp only [List.length_cons, List.length_nil] <;> omega)) only [push_cast, ↓reduceIte, Nat.reduceLT, Nat.reduceEqDiff, reduceCtorEq, Nat.reduceAdd, if_true, if_false, true_and, and_true, hn, hd, h34, h33, h32, h4, h5, h10, r2.idx Tryz.underlying22 infC, hld, alL zr3, alL zrC, AH.new_next, hs1', hs2]
      generalize (((k.new (.row [.int .i64 0] 3 true)).new (.row [.string ByteArray.empty, .int .i64 0, .int .u64 0, .int .i64 0, .slice none 0 0] 40 true)).set k.next (.row [.int .i64 j] 3 true)).set (k.next + 1) (.row [Value.string c.name, .int .i64 c.pins, .int .u64 c.table, .int .i64 c.area, dv] 40 true) = k4 at g4 c11 c12 ⊢
      have b5k := (b5.sub hg.sub).sub g4.sub
      simp (disch := first | omega | decide | (simp only [List.length_cons, List.length_nil] <;> omega)) only [push_cast, ↓reduceIte, Nat.reduceLT, Nat.reduceEqDiff, reduceCtorEq, Nat.reduceAdd, if_true, if_false, true_and, and_true, hn, hd, h34, h33, h32, h4, h5, h10, faL foC1, c12.ld fl3, b5k.ld fl3]
      have hw : IntKind.i64.wrap ((j : Int) + 1) = j + 1 := wrapI (by omega) (by omega)
      rw [drop_cons_getD hj default, hc0, matchGo, ← List.append_assoc] at hgo
      have hlt0 : b.next < k.next := AH.get_lt hg.wf hTb
      refine condV_not (fun ep => ?_) (fun ep => ?_)
      · have hp : ¬ (c.pins = N) := by simpa using ep
        rw [if_neg hp, List.append_nil] at hgo
        simp (disch := first | omega | decide | (simp only [List.length_cons, List.length_nil] <;> omega)) only [push_cast, ↓reduceIte, Nat.reduceLT, Nat.reduceEqDiff, reduceCtorEq, Nat.reduceAdd, if_true, if_false, true_and, and_true, hn, hd, h34, h33, h32, h4, h5, h10, hw]
        exact ⟨m - 1, by omega, j + 1, D, bs, rv, ob, A, by simp (disch := first | omega | decide | (simp only [List.length_cons, List.length_nil] <;> omega)) only [push_cast, ↓reduceIte, Nat.reduceLT, Nat.reduceEqDiff, reduceCtorEq, Nat.reduceAdd, if_true, if_false, true_and, and_true, hn], by simp (disch := first | omega | decide | (simp only [List.length_cons, List.length_nil] <;> omega)) only [push_cast, ↓reduceIte, Nat.reduceLT, Nat.reduceEqDiff, reduceCtorEq, Nat.reduceAdd, if_true, if_false, true_and, and_true, hd], by simp (disch := first | omega | decide | (simp only [List.length_cons, List.length_nil] <;> omega)) only [push_cast, ↓reduceIte, Nat.reduceLT, Nat.reduceEqDiff, reduceCtorEq, Nat.reduceAdd, if_true, if_false, true_and, and_true], by simp (disch := first | omega | decide | (simp only [List.length_cons, List.length_nil] <;> omega)) only [push_cast, ↓reduceIte, Nat.reduceLT, Nat.reduceEqDiff, reduceCtorEq, Nat.reduceAdd, if_true, if_false, true_and, and_true, h33], by simp (disch := first | omega | decide | (simp only [List.length_cons, List.length_nil] <;> omega)) only [push_cast, ↓reduceIte, Nat.reduceLT, Nat.reduceEqDiff, reduceCtorEq, Nat.reduceAdd, if_true, if_false, true_and, and_true, h32], by simp (disch := first | omega | decide | (simp only [List.length_cons, List.length_nil] <;> omega)) only [push_cast, ↓reduceIte, Nat.reduceLT, Nat.reduceEqDiff, reduceCtorEq, Nat.reduceAdd, if_true, if_false, true_and, and_true, h4], by simp (disch := first | omega | decide | (simp only [List.length_cons, List.length_nil] <;> omega)) only [push_cast, ↓reduceIte, Nat.reduceLT, Nat.reduceEqDiff, reduceCtorEq, Nat.reduceAdd, if_true, if_false, true_and, and_true, h5], by simp (disch := first | omega | decide | (simp only [List.length_cons, List.length_nil] <;> omega)) only [push_cast, ↓reduceIte, Nat.reduceLT, Nat.reduceEqDiff, reduceCtorEq, Nat.reduceAdd, if_true, if_false, true_and, and_true, h10], by omega, hg.trans g4, g4.sub _ _ hTb, hbs.sub g4.sub, hA, hgo, fun d hd => ⟨g4.sub _ _ (hD d hd).1, (hD d hd).2⟩, hDn, by omega⟩
      · have hp : c.pins = N := by simpa using ep
        rw [if_pos hp] at hgo
        simp (disch := first | omega | decide | (simp only [List.length_cons, List.length_nil] <;> omega)) only [push_cast, ↓reduceIte, Nat.reduceLT, Nat.reduceEqDiff, reduceCtorEq, Nat.reduceAdd, if_true, if_false, true_and, and_true, hn, hd, h34, h33, h32, h4, h5, h10, b5k.ld fl3]
        refine ACall.mono ?_ (orders (N := N) (by omega))
        rintro _ k5 ⟨rfl, rfl⟩
        simp (disch := first | omega | decide | (simp only [List.length_cons, List.length_nil] <;> omega)) only [push_cast, ↓reduceIte, Nat.reduceLT, Nat.reduceEqDiff, reduceCtorEq, Nat.reduceAdd, if_true, if_false, true_and, and_true, hn, hd, h34, h33, h32, h4, h5, h10]
        have gP := (Gr.refl g4.wf).new (.row [.int .i64 N] 3 true)
        have cP := CsAt.new k4 [.int .i64 N] 3 true
        have hn4 := g4.nx
        refine rangeN rfl (by simp (disch := first | omega | decide | (simp only [List.length_cons, List.length_nil] <;> omega)) only [push_cast, ↓reduceIte, Nat.reduceLT, Nat.reduceEqDiff, reduceCtorEq, Nat.reduceAdd, if_true, if_false, true_and, and_true]; rfl) ?_
        intro l0 q1 q2 q3 q4 q5 q6 q7
        generalize hk5 : k4.new (.row [.int .i64 N] 3 true) = k5 at gP cP ⊢
        have hn5 : k5.next = k4.next + 1 := by rw [← hk5]; rfl
        have g7 := (gP.new (.dfr true)).new (.loop l0)
        have hR : Rounds (ext N N []).length (.func (.yield (k5.next + 1)) #[] #[]) (MI fun acc g => MF (k5.next + 1) b.next k.next (k.next + 1) l0 j [Value.string c.name, .int .i64 c.pins, .int .u64 c.table, .int .i64 c.area, dv] b (bs ++ cellM tt N c.table j acc) g) := by
          refine MI.rounds (fun acc g g' hf hs => hf.mono hs) ?_
          intro K acc h8 h9 p pv w8 hK8 hF0 hgr hfresh hpl hml hs9
          have hF := hF0.mono (hide_mono hgr.sub)
          have w9 := hgr.wf
          have hK9 : ∀ C, K C → C < h9.next := fun C hC => Nat.lt_of_lt_of_le (hK8 C hC) hgr.nx
          have hlp9 := (hide_get.1 hF.lp)
          have hs9' := hs9
          refine ⟨l0, hlp9.2, by rw [q5]; rfl, by rw [q5, q3]; simp [put_n, hn], ?_⟩
          have t45 : (l0.act [pv]).tm 45 = pv := by simp [ALoop.act, q5]
          have tmo : ∀ i, i ≠ 45 → (l0.act [pv]).tm i = l0.tm i := fun i hi => by simp [ALoop.act, q5, hi]
          have ht4 := tmo 4 (by decide); have ht5 := tmo 5 (by decide); have ht10 := tmo 10 (by decide); have ht11 := tmo 11 (by decide); have ht12 := tmo 12 (by decide)
          rw [q4] at ht4 ht5 ht10 ht11 ht12
          simp (disch := first | omega | decide | (simp only [List.length_cons, List.length_nil] <;> omega)) only [push_cast, ↓reduceIte, Nat.reduceLT, Nat.reduceEqDiff, reduceCtorEq, Nat.reduceAdd, if_true, if_false, true_and, and_true, h34, h33, h32, h4, h5, h10] at ht4 ht5 ht10 ht11 ht12
          have hna : (l0.act [pv]).n = 65 := by simp [ALoop.act, q3, put_n, hn]
          have hda : (l0.act [pv]).df = [] := rfl
          show AW _ _ _ _ (l0.act [pv]) h9
          generalize l0.act [pv] = a9 at t45 ht4 ht5 ht10 ht11 ht12 hna hda ⊢
          rw [q6]
          refine wpA_sound _ _ _ _ ?_
          simp (disch := first | omega | decide | (simp only [List.length_cons, List.length_nil] <;> omega)) only [push_cast, ↓reduceIte, Nat.reduceLT, Nat.reduceEqDiff, reduceCtorEq, Nat.reduceAdd, if_true, if_false, true_and, and_true, hna, hda, t45, ht4, ht5, ht10, ht11, ht12]
          refine ⟨l0, hlp9.2, q1, ?_⟩
          have hs10 : SubC h9 (h9.set (k5.next + 1) (.loop { l0 with state := .busy })) := fun B o cs hB hc => by
            rw [AH.set_get, if_neg (by rintro rfl; rw [hlp9.2] at hB; cases hB; cases hc)]; exact hB
          have up : ∀ {B : Nat} {cs : List Value}, CsAt (hide K h9) B cs → CsAt (h9.set (k5.next + 1) (.loop { l0 with state := .busy })) B cs := fun ⟨o, x, y⟩ => ⟨o, hs10 _ _ _ (hide_sub _ _ _ _ x) y, y⟩
          have u4 := up (b4.sub hF.sub)
          have u5 := up (b5.sub hF.sub)
          have u11 := up hF.b11
          have u12 := up hF.b12
          have hcm := hok _ (getD_mem hj default)
          rw [hc0] at hcm
          have hpv := SlOf_subC hs9' hs10
          generalize hk10 : h9.set (k5.next + 1) (.loop { l0 with state := .busy }) = k10 at u4 u5 u11 u12 hpv ⊢
          rw [q7]
          refine wpA_sound _ _ _ _ ?_
          simp (disch := first | omega | decide | (simp only [List.length_cons, List.length_nil] <;> omega)) only [push_cast, ↓reduceIte, Nat.reduceLT, Nat.reduceEqDiff, reduceCtorEq, Nat.reduceAdd, if_true, if_false, true_and, and_true, hna, hda, t45, ht4, ht5, ht10, ht11, ht12, faL foC2, u12.ld flU, u5.ld fl3]
          refine ACall.mono ?_ (permuteN (n := N) hpv (by omega) hcm.1 hcm.2.1)
          have hEQ : (if validE c.table N = true ∧ permE p N = true then Value.tuple #[.int .u64 (permuteE c.table N p), .int .i64 0] else .tuple #[.int .u64 0, .int .i64 1]) = .tuple #[.int .u64 (if validE c.table N = true ∧ permE p N = true then permuteE c.table N p else 0), .int .i64 (if validE c.table N = true ∧ permE p N = true then 0 else 1)] := by split <;> rfl
          rintro _ k11 ⟨rfl, rfl⟩
          rw [hEQ]
          have hh : hitE c.table tt N p = decide ((if validE c.table N = true ∧ permE p N = true then permuteE c.table N p else 0) = tt) := rfl
          have hcell : cellM tt N c.table j (acc ++ [p]) = cellM tt N c.table j acc ++ (if hitE c.table tt N p = true then [((j : Int), p)] else []) := by
            unfold cellM
            rw [List.filter_append, List.map_append]
            by_cases hx : hitE c.table tt N p = true <;> simp [hx]
          rw [hcell, hh]
          generalize (if validE c.table N = true ∧ permE p N = true then permuteE c.table N p else 0) = X
          generalize (if validE c.table N = true ∧ permE p N = true then (0 : Int) else 1) = E
          simp (disch := first | omega | decide | (simp only [List.length_cons, List.length_nil] <;> omega)) only [push_cast, ↓reduceIte, Nat.reduceLT, Nat.reduceEqDiff, reduceCtorEq, Nat.reduceAdd, if_true, if_false, true_and, and_true, hna, hda, t45, ht4, ht5, ht10, ht11, ht12, u4.ld flU]
          refine condV_of (fun e => ?_) (fun e => ?_)
          · obtain ⟨rv', ob', A', hT0, hB0, hA'⟩ := hF0.tb
            have hT' := hide_mono hgr.sub _ _ hT0
            have hB' := hB0.sub (hide_mono hgr.sub)
            have hT9 := hide_sub _ _ _ _ hT'
            have hTk : k11.get b.next = some (.row [rv'] 75 true) := by rw [← hk10]; exact hs10 _ _ _ hT9 rfl
            have hpc : pv.cells.toList = [pv] ∧ oneC pv = true := by obtain ⟨p', l', c', rfl, _⟩ := hpv; exact ⟨rfl, rfl⟩
            have hL9 := AH.get_lt w9 hlp9.2
            have wk : WFH k11 := by rw [← hk10]; exact w9.set hL9 _
            have gD := (Gr.refl wk).new (.row [.int .i64 j, pv] 81 true)
            have hsrcN := srcNew (h := k11) (xs := [.int .i64 j, pv]) (e := 81) (sz := 2) rfl
            obtain ⟨zs, hV, hVg, hVe⟩ := hB'
            have hcl := cellM_le tt N c.table j acc
            have hel := ext_le hN4
            have hbld := aBuildM smB (by decide) k11 (xs := [.int .i64 j, pv]) rfl (by simp [hpc.2]; rfl)
            obtain ⟨r', k12, happ, ⟨A2, o2, hV2, hA2, hlo2⟩, frx, w12, n12⟩ := appendM (t := 75) (t2 := 75) smB ⟨_, Tryz.underlying75⟩ gD.wf hV (fun o e => gD.sub _ _ (by rw [← hk10, AH.set_get, if_neg (hA' o e).1]; exact hide_sub _ _ _ _ (hVg o e))) hsrcN (by decide) rfl (by rw [List.length_append]; omega) (by rw [List.length_append]; omega)
            simp (disch := first | omega | decide | (simp only [List.length_cons, List.length_nil] <;> omega)) only [push_cast, ↓reduceIte, Nat.reduceLT, Nat.reduceEqDiff, reduceCtorEq, Nat.reduceAdd, if_true, if_false, true_and, and_true, hna, hda, t45, ht4, ht5, ht10, ht11, ht12, ldL (P := Tryz.prog) hTk rfl flB, u11.ld fl3, buildB hpc.1, hbld, happ]
            have hTk12 : k12.get b.next = some (.row [rv'] 75 true) := frx _ _ (gD.sub _ _ hTk) (fun hx => by
              cases hob : ob' with
              | none => rfl
              | some o => exact absurd hx.symm (hA' o hob).2.1)
            have hst := stC szB hTk12 0 r' (by simp) hV2.one.2 hV2.one.1
            have hLk12 : k12.get (k5.next + 1) = some (.loop { l0 with state := .busy }) := frx _ _ (gD.sub _ _ (by rw [← hk10, AH.set_get, if_pos rfl])) (fun hx => by
              cases hob : ob' with
              | none => rfl
              | some o => exact absurd hx.symm (hA' o hob).1)
            have hb2 : ({ ({ l0 with state := .busy } : ALoop) with state := .ready, pending := none } : ALoop) = l0 := by
              cases l0; simp only at q1 q2; subst q1; subst q2; rfl
            have hTb9 := AH.get_lt w9 hT9
            simp (disch := first | omega | decide | (simp only [List.length_cons, List.length_nil] <;> omega)) only [push_cast, ↓reduceIte, Nat.reduceLT, Nat.reduceEqDiff, reduceCtorEq, Nat.reduceAdd, if_true, if_false, true_and, and_true, hna, hda, hst]
            refine ⟨_, by rw [AH.set_get, if_neg (by omega)]; exact hLk12, ?_⟩
            rw [hb2]
            have hKL : ¬ K (k5.next + 1) := (hide_get.1 hF.lp).1
            have hKT : ¬ K b.next := (hide_get.1 hT').1
            have hne : k5.next + 1 ≠ b.next := by omega
            have hall : ∀ B o, h9.get B = some o → B ≠ b.next → B ≠ k5.next + 1 → (B = A' → ob' = none) → ((k12.set b.next (.row ([rv'].set 0 r') 75 true)).set (k5.next + 1) (.loop l0)).get B = some o := fun B o hB h1 h2 h3 => by
              rw [AH.set_get, if_neg h2, AH.set_get, if_neg h1]
              exact frx _ _ (gD.sub _ _ (by rw [← hk10, AH.set_get, if_neg h2]; exact hB)) h3
            have hh : ∀ B o, (hide K h9).get B = some o → B ≠ b.next → B ≠ k5.next + 1 → (B = A' → ob' = none) → (hide K ((k12.set b.next (.row ([rv'].set 0 r') 75 true)).set (k5.next + 1) (.loop l0))).get B = some o := fun B o hB h1 h2 h3 =>
              hide_get.2 ⟨(hide_get.1 hB).1, hall B o (hide_get.1 hB).2 h1 h2 h3⟩
            have hgt : k5.next + 1 < h9.next := hL9
            have hget13 : ((k12.set b.next (.row ([rv'].set 0 r') 75 true)).set (k5.next + 1) (.loop l0)).get (k5.next + 1) = some (.loop l0) := by rw [AH.set_get, if_pos rfl]
            refine ⟨rfl, ⟨hide_get.2 ⟨hKL, hget13⟩, ?_, ?_, ?_, ?_⟩, ?_, ?_, ?_⟩
            · obtain ⟨o, x, y⟩ := hF.b11
              exact ⟨o, hh _ _ x (by omega) (by omega) (fun hx => by cases hob : ob' with | none => rfl | some o2 => exact absurd hx.symm (hA' o2 hob).2.2.1), y⟩
            · obtain ⟨o, x, y⟩ := hF.b12
              exact ⟨o, hh _ _ x (by omega) (by omega) (fun hx => by cases hob : ob' with | none => rfl | some o2 => exact absurd hx.symm (hA' o2 hob).2.2.2.1), y⟩
            · intro B o hB
              have := AH.get_lt wb hB
              exact hh _ _ (hF.sub B o hB) (by omega) (by omega) (fun hx => by cases hob : ob' with | none => rfl | some o2 => have := (hA' o2 hob).2.2.2.2; omega)
            · have hk11n : k11.next = h9.next := by rw [← hk10]; rfl
              have hlo3 : h9.next + 1 ≤ A2 := by simpa [hk11n] using hlo2
              have hKA2 : ¬ K A2 := fun hK => by have := hK9 _ hK; omega
              have hTlt := AH.get_lt w9 hT9
              have hgA2 : (hide K ((k12.set b.next (.row ([rv'].set 0 r') 75 true)).set (k5.next + 1) (.loop l0))).get A2 = some o2 := hide_get.2 ⟨hKA2, by rw [AH.set_get, if_neg (by omega), AH.set_get, if_neg (by omega)]; exact hA2⟩
              refine ⟨r', some o2, A2, hide_get.2 ⟨hKT, by rw [AH.set_get, if_neg (by omega), AH.set_get, if_pos rfl]; rfl⟩, ⟨zs ++ [.int .i64 j, pv], by simpa [e, Nat.add_assoc] using hV2, fun o ho => by cases ho; exact hgA2, fun i x hx => ?_⟩, fun o ho => by omega⟩
              rw [if_pos e, ← List.append_assoc] at hx
              have hzl : zs.length = (bs ++ cellM tt N c.table j acc).length * 2 := hV.1
              have hLnc : ∀ B o cs, h9.get B = some o → o.cells? = some cs → B ≠ k5.next + 1 := fun B o cs hB hc => by
                rintro rfl; rw [hlp9.2] at hB; cases hB; cases hc
              by_cases hi : i < (bs ++ cellM tt N c.table j acc).length
              · rw [List.getElem?_append_left hi] at hx
                obtain ⟨pv2, e2, hs2⟩ := hVe i x hx
                refine ⟨pv2, ?_, ?_⟩
                · rw [List.drop_append_of_le_length (by omega), List.take_append_of_le_length (by rw [List.length_drop]; omega)]; exact e2
                · refine SlOf_subC hs2 (fun B o cs hB hc => ?_)
                  obtain ⟨hn1, hB1⟩ := hide_get.1 hB
                  have hB9 := (hide_get.1 hB1).2
                  have := AH.get_lt w9 hB9
                  refine hide_get.2 ⟨?_, hh _ _ hB1 (fun hx => hn1 (.inl hx)) (hLnc _ _ _ hB9 hc) (fun hx => absurd (.inr hx) hn1)⟩
                  rintro (hx | hx)
                  · exact hn1 (.inl hx)
                  · omega
              · rw [List.getElem?_append_right (by omega)] at hx
                have hi0 : i = (bs ++ cellM tt N c.table j acc).length := by
                  have := (List.getElem?_eq_some_iff.1 hx).1
                  simp only [List.length_cons, List.length_nil] at this; omega
                rw [hi0, Nat.sub_self] at hx
                cases hx
                have hT8 := AH.get_lt w8 (hide_sub _ _ _ _ hT0)
                refine ⟨pv, ?_, ?_⟩
                · rw [hi0, ← hzl, List.drop_left]; rfl
                · refine SlOf_subC (SlOf_hide (K := fun C => C < h8.next) hs9 (fun C off l' c' ee hC => by have := hfresh C off l' c' ee; omega)) (fun B o cs hB hc => ?_)
                  obtain ⟨hn1, hB9⟩ := hide_get.1 hB
                  have := AH.get_lt w9 hB9
                  have hnK : ¬ K B := fun hK => by have := hK8 B hK; omega
                  refine hide_get.2 ⟨?_, hh _ _ (hide_get.2 ⟨hnK, hB9⟩) (by omega) (hLnc _ _ _ hB9 hc) (fun hx => ?_)⟩
                  · rintro (hx | hx) <;> omega
                  · cases hob : ob' with
                    | none => rfl
                    | some o2 =>
                      obtain ⟨zs0, hV0, hg0, -⟩ := hB0
                      have := AH.get_lt w8 (hide_sub _ _ _ _ (hg0 o2 hob))
                      omega
            · exact (w12.set (AH.get_lt w12 hTk12) _).set (by simpa using AH.get_lt w12 hLk12) _
            · have hk11n : k11.next = h9.next := by rw [← hk10]; rfl
              simp only [AH.new_next] at n12
              simp only [AH.set_next]
              omega
            · exact fun B o hK hB => hall B o hB (by rintro rfl; exact hKT hK) (by rintro rfl; exact hKL hK) (fun hx => by
                cases hob : ob' with
                | none => rfl
                | some o2 => subst hx; exact absurd hK (hide_get.1 (hVg o2 hob)).1)
          · simp (disch := first | omega | decide | (simp only [List.length_cons, List.length_nil] <;> omega)) only [push_cast, ↓reduceIte, Nat.reduceLT, Nat.reduceEqDiff, reduceCtorEq, Nat.reduceAdd, if_true, if_false, true_and, and_true, hna, hda, e]
            have hb2 : ({ ({ l0 with state := .busy } : ALoop) with state := .ready, pending := none } : ALoop) = l0 := by
              cases l0; simp only at q1 q2; subst q1; subst q2; rfl
            refine ⟨_, by rw [← hk10, AH.set_get, if_pos rfl], ?_⟩
            rw [hb2]
            have hall : ∀ B o, h9.get B = some o → (k11.set (k5.next + 1) (.loop l0)).get B = some o := fun B o hB => by
              rw [AH.set_get]
              split
              · rename_i hBL; subst hBL; rw [hlp9.2] at hB; exact hB
              · rename_i hBL; rw [← hk10, AH.set_get, if_neg hBL]; exact hB
            have hL9 := AH.get_lt w9 hlp9.2
            refine ⟨rfl, ?_, ?_, ?_, fun B o _ hB => hall B o hB⟩
            · exact hF.mono (fun B o hB => hide_get.2 ⟨(hide_get.1 hB).1, hall B o (hide_get.1 hB).2⟩)
            · rw [← hk10]; exact (w9.set hL9 _).set (by simpa using hL9) _
            · rw [← hk10]; simp
        have hDk : ∀ d ∈ D, d < k.next := fun d hd => AH.get_lt hg.wf (hD d hd).1
        have hk4n : k.next + 2 ≤ k4.next := by
          obtain ⟨o, x, _⟩ := c12
          have := AH.get_lt g4.wf x; omega
        have g47 : Sub k4 ((k5.new (.dfr true)).new (.loop l0)) := g7.sub
        have hkeep : ∀ B o, k4.get B = some o → B ∉ D → (hide (fun C => C = k4.next ∨ C ∈ D ∨ C = k5.next) ((k5.new (.dfr true)).new (.loop l0))).get B = some o := fun B o hB hn => by
          have := AH.get_lt g4.wf hB
          exact hide_get.2 ⟨by rintro (h | h | h); omega; exact hn h; omega, g47 _ _ hB⟩
        have hsc : SubC k (hide (fun C => C = k4.next ∨ C ∈ D ∨ C = k5.next) ((k5.new (.dfr true)).new (.loop l0))) := fun B o cs hB hc => hkeep B o (g4.sub _ _ hB) (fun hm => by have := (hD B hm).1; rw [hB] at this; cases this; cases hc)
        have hAlt : ∀ o, ob = some o → A < k.next := fun o e => by obtain ⟨zs, _, h2, _⟩ := hbs; exact AH.get_lt hg.wf (h2 o e)
        refine ACall.mono ?_ (orders1 (N := N) (P1 := k4.next) (K := fun C => C = k4.next ∨ C ∈ D ∨ C = k5.next) (by omega) ?_ rfl rfl hR ?_ (.inl rfl) ?_)
        · rintro r k8 ⟨⟨w8', hK8, hMF⟩, w8, n8, hkp⟩
          have hlp := hide_get.1 hMF.lp
          refine ⟨l0, hlp.2, by rw [q1]; decide, ?_⟩
          rw [q2]
          obtain ⟨rv', ob', A', hT', hB', hA'⟩ := hMF.tb
          have hTb8 := hide_sub _ _ _ _ hT'
          have gb8 : Gr b k8 := ⟨w8, fun B o hB => hide_sub _ _ _ _ (hMF.sub B o hB), Nat.le_trans (hg.trans g4).nx (Nat.le_trans g7.nx n8)⟩
          have hL8 : k5.next + 1 < k8.next := AH.get_lt w8 hlp.2
          simp (disch := first | omega | decide | (simp only [List.length_cons, List.length_nil] <;> omega)) only [push_cast, ↓reduceIte, Nat.reduceLT, Nat.reduceEqDiff, reduceCtorEq, Nat.reduceAdd, if_true, if_false, true_and, and_true, hn, hd, h34, h33, h32, h4, h5, h10, hw]
          refine ⟨m - 1, by omega, j + 1, k5.next :: D, _, rv', ob', A', by simp (disch := first | omega | decide | (simp only [List.length_cons, List.length_nil] <;> omega)) only [push_cast, ↓reduceIte, Nat.reduceLT, Nat.reduceEqDiff, reduceCtorEq, Nat.reduceAdd, if_true, if_false, true_and, and_true, hn], by simp (disch := first | omega | decide | (simp only [List.length_cons, List.length_nil] <;> omega)) only [push_cast, ↓reduceIte, Nat.reduceLT, Nat.reduceEqDiff, reduceCtorEq, Nat.reduceAdd, if_true, if_false, true_and, and_true, hd], by simp (disch := first | omega | decide | (simp only [List.length_cons, List.length_nil] <;> omega)) only [push_cast, ↓reduceIte, Nat.reduceLT, Nat.reduceEqDiff, reduceCtorEq, Nat.reduceAdd, if_true, if_false, true_and, and_true], by simp (disch := first | omega | decide | (simp only [List.length_cons, List.length_nil] <;> omega)) only [push_cast, ↓reduceIte, Nat.reduceLT, Nat.reduceEqDiff, reduceCtorEq, Nat.reduceAdd, if_true, if_false, true_and, and_true, h33], by simp (disch := first | omega | decide | (simp only [List.length_cons, List.length_nil] <;> omega)) only [push_cast, ↓reduceIte, Nat.reduceLT, Nat.reduceEqDiff, reduceCtorEq, Nat.reduceAdd, if_true, if_false, true_and, and_true, h32], by simp (disch := first | omega | decide | (simp only [List.length_cons, List.length_nil] <;> omega)) only [push_cast, ↓reduceIte, Nat.reduceLT, Nat.reduceEqDiff, reduceCtorEq, Nat.reduceAdd, if_true, if_false, true_and, and_true, h4], by simp (disch := first | omega | decide | (simp only [List.length_cons, List.length_nil] <;> omega)) only [push_cast, ↓reduceIte, Nat.reduceLT, Nat.reduceEqDiff, reduceCtorEq, Nat.reduceAdd, if_true, if_false, true_and, and_true, h5], by simp (disch := first | omega | decide | (simp only [List.length_cons, List.length_nil] <;> omega)) only [push_cast, ↓reduceIte, Nat.reduceLT, Nat.reduceEqDiff, reduceCtorEq, Nat.reduceAdd, if_true, if_false, true_and, and_true, h10], by omega, gb8.set wb (by omega) hL8 _, ?_, ?_, ?_, hgo, ?_, ?_, ?_⟩
          · rw [AH.set_get, if_neg (by omega)]; exact hTb8
          · refine (hB'.sub (hide_sub _ _)).subC (fun B o cs hB hc => ?_)
            rw [AH.set_get, if_neg (by rintro rfl; rw [hlp.2] at hB; cases hB; cases hc)]; exact hB
          · intro o e
            have := hA' o e
            omega
          · intro d hd
            rcases List.mem_cons.1 hd with rfl | hd
            · refine ⟨?_, by omega⟩
              rw [AH.set_get, if_neg (by omega)]
              exact hkp _ _ (.inr (.inr rfl)) (by rw [AH.new_get, if_neg (by simp), AH.new_get, if_pos rfl])
            · have hdk := hDk d hd
              refine ⟨?_, (hD d hd).2⟩
              rw [AH.set_get, if_neg (by omega)]
              exact hkp _ _ (.inr (.inl hd)) (g47 _ _ (g4.sub _ _ (hD d hd).1))
          · exact List.nodup_cons.2 ⟨fun hm => by have := hDk _ hm; omega, hDn⟩
          · have := cellM_le tt N c.table j (ext N N [])
            have := ext_le hN4
            rw [List.length_append]; omega
        · exact cP.sub (Sub.trans (Sub.new gP.wf _) (Sub.new (gP.wf.new _) _))
        · refine ⟨g7.wf, ?_, ?_⟩
          · rintro C (rfl | h | rfl)
            · simp; omega
            · have := hDk C h; simp; omega
            · simp; omega
          · refine ⟨hide_get.2 ⟨?_, by rw [AH.new_get, if_pos (by simp)]⟩, ?_, ?_, ?_, ?_⟩
            · rintro (h | h | h)
              · omega
              · have := hDk _ h; omega
              · omega
            · obtain ⟨o, x, y⟩ := c11
              exact ⟨o, hkeep _ _ x (fun h => by have := hDk _ h; omega), y⟩
            · obtain ⟨o, x, y⟩ := c12
              exact ⟨o, hkeep _ _ x (fun h => by have := hDk _ h; omega), y⟩
            · intro B o hB
              have := AH.get_lt wb hB
              exact hkeep _ _ (g4.sub _ _ (hg.sub _ _ hB)) (fun h => by have := (hD _ h).2; omega)
            · refine ⟨rv, ob, A, hkeep _ _ (g4.sub _ _ hTb) (fun h => by have := (hD _ h).2; omega), by simpa [cellM] using hbs.subC hsc, fun o e => ?_⟩
              have := hA o e
              have := hAlt o e
              omega
        · rintro C (rfl | h | rfl)
          · simp; omega
          · have := hDk C h; simp; omega
          · simp; omega
    · have hj : j = l.length := by have := hge; simp at this; omega
      subst hj
      rw [List.drop_length, matchGo, List.append_nil] at hgo
      obtain ⟨h', ec, en, ew, eg⟩ := closeMarks_ok D k hg.wf (fun d hd => (hD d hd).1) hDn
      have hlT := ldL (P := Tryz.prog) hTb rfl flB 0 (by simp)
      simp (disch := first | omega | decide | (simp only [List.length_cons, List.length_nil] <;> omega)) only [push_cast, ↓reduceIte, Nat.reduceLT, Nat.reduceEqDiff, reduceCtorEq, Nat.reduceAdd, if_true, if_false, true_and, and_true, hn, hd, h34, h33, h32, h4, h5, h10, hlT, ec]
      have hsc : SubC k h' := fun B o cs hB hc => by
        rw [eg B (fun hm => by have := (hD B hm).1; rw [hB] at this; cases this; cases hc)]; exact hB
      refine ⟨g2.trans ⟨ew, fun B o hB => ?_, by rw [en]; exact hg.nx⟩, rv, rfl, ob, A, by rw [← hgo]; exact hbs.v.subC hsc⟩
      have := AH.get_lt wb hB
      rw [eg B (fun hm => by have := (hD B hm).2; omega)]; exact hg.sub _ _ hB

end Go.Ab.S1

namespace Go.Ab.S1
open Go.Proofs
set_option linter.unusedSimpArgs false
set_option linter.unusedVariables false
set_option maxRecDepth 100000
set_option maxHeartbeats 4000000
attribute [local push_cast] wpA_skip wpA_ret wpA_exit wpA_seq wpA_block wpA_cond2 andK_true wpA_region wpA_draw wpA_loop thenQ_normal thenQ_ret thenQ_exit blockQ_normal blockQ_ret blockQ_exit condV_true condV_false opsM_nil opsM_cons2 okM_true wantM_true wantM_false stepM seqM_cons2 seqM_nil2 okS_true wantS_true wantS_false stepS skipS okB Keeps_nil contK_app List.zip_cons_cons List.zip_nil_left List.zip_nil_right Op.operands Call.operands Array.toList_append List.append_nil List.nil_append List.all_cons List.all_nil cOK plain put_n put_tm put_none put_df ev_tmp ev_const ev_func wanted_none wanted_some callR_func dop ex_some1 aBuiltin aBin intBin aUn Option.map_some Bool.and_true Bool.true_and Bool.and_self List.map_cons List.map_nil List.toList_toArray List.getElem?_toArray List.getElem?_cons_zero List.getElem?_cons_succ Option.getD_some Option.getD_none Bool.false_eq_true eq_self_iff_true decide_true decide_false List.cons_append aExtract resL resV List.getD_cons_zero List.getD_cons_succ List.getD_nil Nat.succ_ne_self g1 g2 yieldedA2 isB_bool isB_undef g3 Option.bind_some Option.bind_none bne_self_eq_false beq_self_eq_true Bool.not_true Bool.not_false Int.toNat_natCast List.length_map List.mem_cons List.not_mem_nil or_false not_false_eq_true decide_not Bool.not_not bodyR_ret2 bodyR_normal2 closeMarks_nil ex_some0 Nat.zero_add Nat.add_zero ieq ine List.map_toArray Option.toArray_none Option.toArray_some oev Keeps_cons Still_eq selL wpX_skip wpX_ret wpX_exit wpX_seq wpX_block wpX_cond wpX_region wpX_draw wpX_loop List.take_succ_cons List.take_zero List.drop_succ_cons List.drop_zero Int.zero_add Int.add_zero aNil

/-- A role's block. -/
def Own (nm : Nat → Nat) (ob : Nat → Option AObj) : Nat → Prop := fun C => ∃ r, ob r ≠ none ∧ nm r = C

variable {b h h' : AH} {nm : Nat → Nat} {ob : Nat → Option AObj}

theorem ownBase (w0 : WFH b) (ho : _root_.Go.Ab.Owns b h nm ob) : Sub b (hide (Own nm ob) h) := fun B o hB => hide_get.2 ⟨by
  rintro ⟨r, hr, rfl⟩
  cases hx : ob r with
  | none => exact hr hx
  | some p => have := ho.lo r p hx; have := AH.get_lt w0 hB; omega, ho.gr.sub _ _ hB⟩

theorem ownLt (ho : _root_.Go.Ab.Owns b h nm ob) {C : Nat} (hC : Own nm ob C) : C < h.next := by
  obtain ⟨r, hr, rfl⟩ := hC
  cases hx : ob r with
  | none => exact absurd hx hr
  | some p => exact AH.get_lt ho.gr.wf (ho.get r p hx)

/-- A role's block turned, or laid anew: what lies beside one's own stays. -/
theorem ownUp (w0 : WFH b) (ho : _root_.Go.Ab.Owns b h nm ob) {r A' : Nat} {o' : AObj} (hg : h'.get A' = some o') (hA : (A' = nm r ∧ ob r ≠ none) ∨ h.next ≤ A')
    (frx : ∀ B o, h.get B = some o → (B = nm r → ob r = none) → h'.get B = some o) (wf : WFH h') (nx : h.next ≤ h'.next) :
    _root_.Go.Ab.Owns b h' (upd nm r A') (upd ob r (some o')) ∧ Sub (hide (Own nm ob) h) (hide (Own (upd nm r A') (upd ob r (some o'))) h') := by
  refine ⟨ho.up w0 hg hA frx wf nx, fun B o hB => ?_⟩
  obtain ⟨hn, hB⟩ := hide_get.1 hB
  refine hide_get.2 ⟨?_, frx B o hB (fun e => ?_)⟩
  · rintro ⟨s, hs, e⟩
    by_cases hsr : s = r
    · subst hsr
      rw [upd_same] at e
      subst e
      rcases hA with ⟨e1, e2⟩ | hA
      · exact hn ⟨s, e2, e1.symm⟩
      · have := AH.get_lt ho.gr.wf hB; omega
    · rw [upd_ne _ _ hsr] at e hs
      exact hn ⟨s, hs, e⟩
  · cases hr : ob r with
    | none => rfl
    | some p => exact absurd ⟨r, by rw [hr]; simp, e.symm⟩ hn

theorem ownGrown (ho : _root_.Go.Ab.Owns b h nm ob) (g : Gr h h') : _root_.Go.Ab.Owns b h' nm ob ∧ Sub (hide (Own nm ob) h) (hide (Own nm ob) h') := ⟨ho.grown g, hide_mono g.sub⟩

/-- What a call has laid lies beside one's own. -/
theorem ownFresh (ho : _root_.Go.Ab.Owns b h nm ob) {v : Value} {vs : List Value} (hs : SlOf h' v vs) (hf : ∀ C off l c, v = .slice (some ⟨C, off, none⟩) l c → h.next ≤ C) : SlOf (hide (Own nm ob) h') v vs :=
  SlOf_hide hs (fun C off l c e hC => by have := hf C off l c e; have := ownLt ho hC; omega)

/-- One's own row of structs, appended to by one. -/
theorem ownPush {t e : TypeId} {sz B : Nat} (ht : SlM Tryz.prog t e sz B) (hs : sz ≤ 16777216) (w0 : WFH b) (ho : _root_.Go.Ab.Owns b h nm ob) {r n : Nat} {v : Value} {zs xs : List Value} (hv : VecM sz e v (ob r) (nm r) n zs)
    (hx : xs.length = sz) (hone : xs.all oneC = true) (hb : (2 * (n + 1) + 192) * B ≤ 281474976710656) (hm : n + 1 < 4611686018427387904) :
    aBuildSlice Tryz.prog t 1 [(0, .agg xs.toArray)] h = some (.slice (some ⟨h.next, 0, none⟩) 1 1, h.new (.row xs e true)) ∧
    ∃ v' h' A' o', aAppend Tryz.prog #[t, t] v (.slice (some ⟨h.next, 0, none⟩) 1 1) (h.new (.row xs e true)) = some (v', h') ∧ VecM sz e v' (some o') A' (n + 1) (zs ++ xs) ∧
      _root_.Go.Ab.Owns b h' (upd nm r A') (upd ob r (some o')) ∧ Sub (hide (Own nm ob) h) (hide (Own (upd nm r A') (upd ob r (some o'))) h') ∧ h.next ≤ h'.next := by
  refine ⟨aBuildM ht hs h hx hone, ?_⟩
  have g1 := (Gr.refl ho.gr.wf).new (.row xs e true)
  obtain ⟨o1, s1⟩ := ownGrown ho g1
  obtain ⟨v', h', happ, ⟨A', o', hV, hA, hlo⟩, frx, w', n'⟩ := appendM (t := t) (t2 := t) ht ⟨_, ht.sl⟩ g1.wf hv (fun o e => o1.get r o e) (srcNew hx) (by decide) (by omega) hb hm
  obtain ⟨o2, s2⟩ := ownUp (r := r) w0 o1 hA (.inr hlo) frx w' n'
  exact ⟨v', h', A', o', happ, hV, o2, s1.trans s2, Nat.le_trans g1.nx n'⟩

end Go.Ab.S1
