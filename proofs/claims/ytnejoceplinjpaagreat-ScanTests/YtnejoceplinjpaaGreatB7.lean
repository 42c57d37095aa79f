/- netlist.first, netlist.bad and netlist.shape on the abstract heap. The order of a netlist's instances, plainly: what the search keeps, and what it comes to. The set of ready instances: slices.BinarySearchFunc, slices.Insert, push and pop on the abstract heap. push and pop of the set of ready instances on the abstract heap. The steps of the search for an order, plainly. netlist.Order on the abstract heap: the state that its loops keep. -/
import Derived.Test.YtnejoceplinjpaaGreatB6
set_option linter.unusedSimpArgs false
set_option linter.unusedVariables false
namespace Go.Ab.S1
open Go.Proofs
set_option linter.unusedSimpArgs false
set_option linter.unusedVariables false
set_option maxRecDepth 100000
set_option maxHeartbeats 4000000
attribute [local push_cast] wpA_skip wpA_ret wpA_exit wpA_seq wpA_block wpA_cond2 andK_true wpA_region wpA_draw wpA_loop thenQ_normal thenQ_ret thenQ_exit blockQ_normal blockQ_ret blockQ_exit condV_true condV_false opsM_nil opsM_cons2 okM_true wantM_true wantM_false stepM seqM_cons2 seqM_nil2 okS_true wantS_true wantS_false stepS skipS okB Keeps_nil contK_app List.zip_cons_cons List.zip_nil_left List.zip_nil_right Op.operands Call.operands Array.toList_append List.append_nil List.nil_append List.all_cons List.all_nil cOK plain put_n put_tm put_none put_df ev_tmp ev_const ev_func wanted_none wanted_some callR_func dop ex_some1 aBuiltin aBin intBin aUn Option.map_some Bool.and_true Bool.true_and Bool.and_self List.map_cons List.map_nil List.toList_toArray List.getElem?_toArray List.getElem?_cons_zero List.getElem?_cons_succ Option.getD_some Option.getD_none Bool.false_eq_true eq_self_iff_true decide_true decide_false List.cons_append aExtract resL resV List.getD_cons_zero List.getD_cons_succ List.getD_nil Nat.succ_ne_self g1 g2 yieldedA2 isB_bool isB_undef g3 Option.bind_some Option.bind_none bne_self_eq_false beq_self_eq_true Bool.not_true Bool.not_false Int.toNat_natCast List.length_map List.mem_cons List.not_mem_nil or_false not_false_eq_true decide_not Bool.not_not bodyR_ret2 bodyR_normal2 closeMarks_nil ex_some0 Nat.zero_add Nat.add_zero ieq ine List.map_toArray Option.toArray_none Option.toArray_some oev Keeps_cons Still_eq selL wpX_skip wpX_ret wpX_exit wpX_seq wpX_block wpX_cond wpX_region wpX_draw wpX_loop List.take_succ_cons List.take_zero List.drop_succ_cons List.drop_zero Int.zero_add Int.add_zero aNil

/-- A netlist, as it is handed over. -/
structure NetR (h : AH) (n : Net) (cv fv iv ov : Value) : Prop where
  c : RowOf cellL h cv n.cells
  f : RowOf flopL h fv n.flops
  i : RowOf instL h iv n.insts
  o : SlOf h ov (n.outs.map (.int .i64))

theorem NetR.sub {h h' : AH} {n : Net} {cv fv iv ov : Value} (r : NetR h n cv fv iv ov) (s : Sub h h') : NetR h' n cv fv iv ov := ⟨r.c.sub s, r.f.sub s, r.i.sub s, r.o.sub s⟩
theorem NetR.view {h : AH} {n : Net} {cv fv iv ov : Value} (r : NetR h n cv fv iv ov) : NetR (AH.view h) n cv fv iv ov := ⟨r.c.view, r.f.view, r.i.view, r.o.view⟩

def netC (n : Net) (cv fv iv ov : Value) : List Value := [cv, .int .i64 n.inputs, fv, iv, ov]

theorem NetR.one {h : AH} {n : Net} {cv fv iv ov : Value} (r : NetR h n cv fv iv ov) : (netC n cv fv iv ov).all oneC = true := by
  simp only [netC, List.all_cons, List.all_nil, r.c.one, r.f.one, r.i.one, r.o.one]; rfl

theorem netC_len {n : Net} {cv fv iv ov : Value} : (netC n cv fv iv ov).length = 5 := rfl

/-- A netlist in a block. -/
def NetAt (h : AH) (B : Nat) (n : Net) (cv fv iv ov : Value) : Prop := ∃ o, h.get B = some o ∧ o.cells? = some (netC n cv fv iv ov)

section
variable {h h' : AH} {B : Nat} {n : Net} {cv fv iv ov : Value}
theorem NetAt.sub (r : NetAt h B n cv fv iv ov) (s : Sub h h') : NetAt h' B n cv fv iv ov := let ⟨o, x, y⟩ := r; ⟨o, s _ _ x, y⟩
theorem NetAt.view (r : NetAt h B n cv fv iv ov) : NetAt (AH.view h) B n cv fv iv ov := let ⟨_, x, y⟩ := r; viewCells x y
theorem NetAt.new : NetAt (h.new (.row (netC n cv fv iv ov) 27 true)) h.next n cv fv iv ov := ⟨_, by rw [AH.new_get, if_pos rfl], rfl⟩
theorem NetAt.l0 (r : NetAt h B n cv fv iv ov) : aLoad Tryz.prog 22 (.pointer (some ⟨B, 0, none⟩)) h = some cv := let ⟨_, x, y⟩ := r; ldL x y flC 0 (by rw [netC_len]; decide)
theorem NetAt.l1 (r : NetAt h B n cv fv iv ov) : aLoad Tryz.prog 3 (.pointer (some ⟨B, 1, none⟩)) h = some (.int .i64 n.inputs) := let ⟨_, x, y⟩ := r; ldL x y fl3 1 (by rw [netC_len]; decide)
theorem NetAt.l2 (r : NetAt h B n cv fv iv ov) : aLoad Tryz.prog 23 (.pointer (some ⟨B, 2, none⟩)) h = some fv := let ⟨_, x, y⟩ := r; ldL x y flF 2 (by rw [netC_len]; decide)
theorem NetAt.l3 (r : NetAt h B n cv fv iv ov) : aLoad Tryz.prog 24 (.pointer (some ⟨B, 3, none⟩)) h = some iv := let ⟨_, x, y⟩ := r; ldL x y flN 3 (by rw [netC_len]; decide)
theorem NetAt.l4 (r : NetAt h B n cv fv iv ov) : aLoad Tryz.prog 25 (.pointer (some ⟨B, 4, none⟩)) h = some ov := let ⟨_, x, y⟩ := r; ldL x y flI 4 (by rw [netC_len]; decide)
theorem NetAt.la (r : NetAt h B n cv fv iv ov) : aLoad Tryz.prog 27 (.pointer (some ⟨B, 0, none⟩)) h = some (.agg (netC n cv fv iv ov).toArray) := let ⟨_, x, y⟩ := r; ldLA x y agN netC_len
end

def firstE (n : Net) : Int := n.inputs + n.flops.length
def badB (n : Net) (x : Int) : Bool := decide (x < -2) || decide (x ≥ firstE n + n.insts.length)

/-- The sizes in which a netlist's numbers are reckoned. -/
structure Small (n : Net) : Prop where
  i0 : 0 ≤ n.inputs
  i1 : n.inputs ≤ 4294967296
  f : n.flops.length ≤ 4294967296
  i : n.insts.length ≤ 4294967296

theorem first {h : AH} {n : Net} {cv fv iv ov : Value} (r : NetR h n cv fv iv ov) (hs : Small n) :
    ACall Tryz.prog 70 [.agg (netC n cv fv iv ov).toArray] h (fun v h' => v = .int .i64 (firstE n) ∧ h' = h) := by
  refine ACall.viewed rfl ?_
  replace r := r.view
  generalize AH.view h = h at r
  have h0 := hs.i0; have h1 := hs.i1; have h2 := hs.f
  refine ACall.of_wp 9 [.tmp 2] Tryz.func70 rfl (by kernel_rfl) rfl rfl fun a hn hd ha => ?_
  have hbox := boxA 27 h _ r.one
  have hN := NetAt.new (h := h) (n := n) (cv := cv) (fv := fv) (iv := iv) (ov := ov)
  simp (disch := first | omega | decide | (simp only [List.length_cons, List.length_nil] <;> omega)) only [push_cast, ↓reduceIte, Nat.reduceLT, Nat.reduceEqDiff, reduceCtorEq, Nat.reduceAdd, if_true, if_false, true_and, and_true, hn, hd, ha, hbox, faL foN0, faL foN1, faL foN2, faL foN3, faL foN4, hN.l0, hN.l1, hN.l2, hN.l3, hN.l4, hN.la, r.f.len Tryz.underlying23, wrapI, firstE]

theorem bad {h : AH} {n : Net} {cv fv iv ov : Value} (r : NetR h n cv fv iv ov) :
    ACall Tryz.prog 93 [.agg (netC n cv fv iv ov).toArray] h (fun v h' => v = .func (.func 118) #[] #[.pointer (some ⟨h.next, 0, none⟩)] ∧ h' = h.new (.row (netC n cv fv iv ov) 27 true)) := by
  refine ACall.of_wp 4 [.tmp 2] Tryz.func93 rfl (by kernel_rfl) rfl rfl fun a hn hd ha => ?_
  have hbox := boxA 27 h _ r.one
  simp (disch := first | omega | decide | (simp only [List.length_cons, List.length_nil] <;> omega)) only [push_cast, ↓reduceIte, Nat.reduceLT, Nat.reduceEqDiff, reduceCtorEq, Nat.reduceAdd, if_true, if_false, true_and, and_true, hn, hd, ha, hbox]

theorem bad1 {h : AH} {n : Net} {cv fv iv ov : Value} (r : NetR h n cv fv iv ov) (hs : Small n) {B : Nat} (hB : NetAt h B n cv fv iv ov) {x : Int} :
    ACall Tryz.prog 118 [.int .i64 x, .pointer (some ⟨B, 0, none⟩)] h (fun v h' => v = .bool (badB n x) ∧ h' = h) := by
  have h0 := hs.i0; have h1 := hs.i1; have h2 := hs.f; have h3 := hs.i
  refine ACall.of_wp 16 [.tmp 3] Tryz.func118 rfl (by kernel_rfl) rfl rfl fun a hn hd ha => ?_
  simp (disch := first | omega | decide | (simp only [List.length_cons, List.length_nil] <;> omega)) only [push_cast, ↓reduceIte, Nat.reduceLT, Nat.reduceEqDiff, reduceCtorEq, Nat.reduceAdd, if_true, if_false, true_and, and_true, hn, hd, ha]
  refine AW.drawP (.take 0 [12, 11, 10, 9, 8, 7, 6, 5, 4, 3, 2, 1] (.take 1 [12, 11, 10, 9, 8, 7, 6, 5, 4, 3, 2] (.take 2 [12, 11, 10, 9, 8, 7, 6, 5, 4, 3] (.take 3 [12, 11, 10] (.take 4 [12, 11, 10, 9, 5] (.take 6 [12, 11, 10, 9, 8, 7] (.watch 7 [12, 11, 10, 9, 8] (.watch 8 [12, 11, 10, 9] (.only 5 (.take 9 [12, 11, 10] (.take 10 [12, 11] (.take 11 [12] (.take 12 [] .done))))))))))))) [(0, 0), (0, 1), (0, 2), (0, 3), (0, 4), (0, 6), (1, 7), (1, 8), (2, 5), (0, 9), (0, 10), (0, 11), (0, 12)] mixed (by kernel_rfl) (by kernel_rfl) ?_
  simp (disch := first | omega | decide | (simp only [List.length_cons, List.length_nil] <;> omega)) only [push_cast, ↓reduceIte, Nat.reduceLT, Nat.reduceEqDiff, reduceCtorEq, Nat.reduceAdd, if_true, if_false, true_and, and_true, hn, hd, ha]
  refine wantS_not (fun e => ?_) (fun e => ?_)
  · simp (disch := first | omega | decide | (simp only [List.length_cons, List.length_nil] <;> omega)) only [push_cast, ↓reduceIte, Nat.reduceLT, Nat.reduceEqDiff, reduceCtorEq, Nat.reduceAdd, if_true, if_false, true_and, and_true, hn, hd, ha, e, badB, Bool.true_or]
  · simp (disch := first | omega | decide | (simp only [List.length_cons, List.length_nil] <;> omega)) only [push_cast, ↓reduceIte, Nat.reduceLT, Nat.reduceEqDiff, reduceCtorEq, Nat.reduceAdd, if_true, if_false, true_and, and_true, hn, hd, ha, e, faL foN0, faL foN1, faL foN2, faL foN3, faL foN4, hB.l0, hB.l1, hB.l2, hB.l3, hB.l4, hB.la, r.i.len Tryz.underlying24]
    refine ACall.mono ?_ (first r hs)
    rintro _ _ ⟨rfl, rfl⟩
    have hw : IntKind.i64.wrap (firstE n + n.insts.length) = firstE n + n.insts.length := wrapI (by unfold firstE; omega) (by unfold firstE; omega)
    simp (disch := first | omega | decide | (simp only [List.length_cons, List.length_nil] <;> omega)) only [push_cast, ↓reduceIte, Nat.reduceLT, Nat.reduceEqDiff, reduceCtorEq, Nat.reduceAdd, if_true, if_false, true_and, and_true, hn, hd, ha, e, faL foN0, faL foN1, faL foN2, faL foN3, faL foN4, hB.l0, hB.l1, hB.l2, hB.l3, hB.l4, hB.la, r.i.len Tryz.underlying24, badB, Bool.false_or, hw]

def instE (n : Net) (x : Inst) : Int :=
  if (decide (x.cell < 0) || decide (x.cell ≥ n.cells.length)) = true then 1
  else if (x.pins.length : Int) ≠ (n.cells.getD x.cell.toNat default).pins then 12
  else if x.pins.any (badB n) = true then 1
  else 0
def flopB (n : Net) (x : Flop) : Bool := badB n x.next || decide (x.init > 1)
def instsGo (n : Net) : List Inst → Int
  | [] => 0
  | x :: xs => if instE n x ≠ 0 then instE n x else instsGo n xs
def bigB (n : Net) : Bool := decide (max (max n.inputs n.flops.length) n.outs.length > 64) || decide ((n.insts.length : Int) > 4096)
def shapeE (n : Net) : Int :=
  if (cellsE n.cells).2 ≠ 0 then (cellsE n.cells).2
  else if n.inputs < 0 then 1
  else if bigB n = true then 5
  else if instsGo n n.insts ≠ 0 then instsGo n n.insts
  else if n.flops.any (flopB n) = true then 1
  else if n.outs.any (badB n) = true then 1
  else 0

/-- The numbers of a netlist are in range. -/
structure NetOK (n : Net) : Prop where
  cell : ∀ c ∈ n.cells, CellOK c
  pins : ∀ x ∈ n.insts, x.pins.length ≤ 4611686018427387904
  fl : n.flops.length ≤ 4611686018427387904
  il : n.insts.length ≤ 4611686018427387904
  ol : n.outs.length ≤ 4611686018427387904

def TwoL (x : Value) (y : Value) : List Value := [x, y]

theorem shapeR {h : AH} {n : Net} {cv fv iv ov : Value} (r : NetR h n cv fv iv ov) (ok : NetOK n) :
    ACall Tryz.prog 69 [.agg (netC n cv fv iv ov).toArray] h (fun v _ => v = .int .i64 (shapeE n)) := by
  refine ACall.wf ⟨_, Tryz.func69, rfl, by kernel_rfl⟩ fun hwf => ?_
  refine ACall.of_wp 101 [.tmp 2] Tryz.func69 rfl (by kernel_rfl) rfl rfl fun a hn hd ha => ?_
  have hbox := boxA 27 h _ r.one
  have hN := NetAt.new (h := h) (n := n) (cv := cv) (fv := fv) (iv := iv) (ov := ov)
  have r1 := r.sub (Sub.new hwf (.row (netC n cv fv iv ov) 27 true))
  have g1 := Gr.refl (hwf.new (.row (netC n cv fv iv ov) 27 true))
  simp (disch := first | omega | decide | (simp only [List.length_cons, List.length_nil] <;> omega)) only [push_cast, ↓reduceIte, Nat.reduceLT, Nat.reduceEqDiff, reduceCtorEq, Nat.reduceAdd, if_true, if_false, true_and, and_true, hn, hd, ha, hbox, faL foN0, faL foN1, faL foN2, faL foN3, faL foN4, hN.l0, hN.l1, hN.l2, hN.l3, hN.l4, hN.la]
  generalize h.new (.row (netC n cv fv iv ov) 27 true) = h1 at hN r1 g1 ⊢
  generalize h.next = B at hN ⊢
  refine ACall.mono ?_ (cells r1.c ok.cell)
  rintro _ h1 ⟨rfl, rfl⟩
  simp (disch := first | omega | decide | (simp only [List.length_cons, List.length_nil] <;> omega)) only [push_cast, ↓reduceIte, Nat.reduceLT, Nat.reduceEqDiff, reduceCtorEq, Nat.reduceAdd, if_true, if_false, true_and, and_true, hn, hd, ha]
  refine condV_not (fun e0 => ?_) (fun e0 => ?_)
  · have e : ¬ (cellsE n.cells).2 = 0 := by simpa using e0
    simp (disch := first | omega | decide | (simp only [List.length_cons, List.length_nil] <;> omega)) only [push_cast, ↓reduceIte, Nat.reduceLT, Nat.reduceEqDiff, reduceCtorEq, Nat.reduceAdd, if_true, if_false, true_and, and_true, hn, hd, ha, shapeE, ne_eq, e]
  have e0' : (cellsE n.cells).2 = 0 := by simpa using e0
  simp (disch := first | omega | decide | (simp only [List.length_cons, List.length_nil] <;> omega)) only [push_cast, ↓reduceIte, Nat.reduceLT, Nat.reduceEqDiff, reduceCtorEq, Nat.reduceAdd, if_true, if_false, true_and, and_true, hn, hd, ha, faL foN0, faL foN1, faL foN2, faL foN3, faL foN4, hN.l0, hN.l1, hN.l2, hN.l3, hN.l4, hN.la]
  refine condV_of (fun e1 => ?_) (fun e1 => ?_)
  · have e : n.inputs < 0 := by simpa using e1
    simp (disch := first | omega | decide | (simp only [List.length_cons, List.length_nil] <;> omega)) only [push_cast, ↓reduceIte, Nat.reduceLT, Nat.reduceEqDiff, reduceCtorEq, Nat.reduceAdd, if_true, if_false, true_and, and_true, hn, hd, ha, shapeE, ne_eq, e0', e, not_true_eq_false]
  have e1' : ¬ n.inputs < 0 := by simpa using e1
  simp (disch := first | omega | decide | (simp only [List.length_cons, List.length_nil] <;> omega)) only [push_cast, ↓reduceIte, Nat.reduceLT, Nat.reduceEqDiff, reduceCtorEq, Nat.reduceAdd, if_true, if_false, true_and, and_true, hn, hd, ha, faL foN0, faL foN1, faL foN2, faL foN3, faL foN4, hN.l0, hN.l1, hN.l2, hN.l3, hN.l4, hN.la, r1.f.len Tryz.underlying23, r1.o.lenA Tryz.underlying25, aFold, aMax2R]
  have hS : shapeE n = if bigB n = true then 5 else if instsGo n n.insts ≠ 0 then instsGo n n.insts else if n.flops.any (flopB n) = true then 1 else if n.outs.any (badB n) = true then 1 else 0 := by
    simp only [shapeE, ne_eq, e0', e1', not_true_eq_false, if_false]
  refine wantM_not (fun e2 => ?_) (fun e2 => ?_)
  · simp (disch := first | omega | decide | (simp only [List.length_cons, List.length_nil] <;> omega)) only [push_cast, ↓reduceIte, Nat.reduceLT, Nat.reduceEqDiff, reduceCtorEq, Nat.reduceAdd, if_true, if_false, true_and, and_true, hn, hd, ha, e2, hS, bigB, Bool.true_or]
  simp (disch := first | omega | decide | (simp only [List.length_cons, List.length_nil] <;> omega)) only [push_cast, ↓reduceIte, Nat.reduceLT, Nat.reduceEqDiff, reduceCtorEq, Nat.reduceAdd, if_true, if_false, true_and, and_true, hn, hd, ha, e2, faL foN0, faL foN1, faL foN2, faL foN3, faL foN4, hN.l0, hN.l1, hN.l2, hN.l3, hN.l4, hN.la, r1.i.len Tryz.underlying24]
  refine condV_of (fun e3 => ?_) (fun e3 => ?_)
  · simp (disch := first | omega | decide | (simp only [List.length_cons, List.length_nil] <;> omega)) only [push_cast, ↓reduceIte, Nat.reduceLT, Nat.reduceEqDiff, reduceCtorEq, Nat.reduceAdd, if_true, if_false, true_and, and_true, hn, hd, ha, hS, bigB, e2, e3, Bool.false_or]
  have hbig : ¬ bigB n = true := by simp only [bigB, e2, e3, Bool.false_or]; decide
  have hsm : Small n := by
    simp at e2 e3
    exact ⟨by omega, by omega, by omega, by omega⟩
  have hsi := hsm.i
  have hsf := hsm.f
  rw [if_neg hbig] at hS
  simp (disch := first | omega | decide | (simp only [List.length_cons, List.length_nil] <;> omega)) only [push_cast, ↓reduceIte, Nat.reduceLT, Nat.reduceEqDiff, reduceCtorEq, Nat.reduceAdd, if_true, if_false, true_and, and_true, hn, hd, ha, faL foN0, faL foN1, faL foN2, faL foN3, faL foN4, hN.l0, hN.l1, hN.l2, hN.l3, hN.l4, hN.la, r1.i.len Tryz.underlying24]
  refine AW.loopN 43 [2, 5, 6, 43] (fun m a' h' => Gr h1 h' ∧ ∃ i : Nat, a'.tm 43 = .int .i64 i ∧ i + m = n.insts.length ∧ instsGo n (n.insts.drop i) = instsGo n n.insts) n.insts.length ?_ ?_
  · exact ⟨g1, 0, by simp (disch := first | omega | decide | (simp only [List.length_cons, List.length_nil] <;> omega)) only [push_cast, ↓reduceIte, Nat.reduceLT, Nat.reduceEqDiff, reduceCtorEq, Nat.reduceAdd, if_true, if_false, true_and, and_true], by omega, rfl⟩
  · rintro a1 m a' h' hk kn kd kt ⟨hg, i, h43, him, hgo⟩
    simp (disch := first | omega | decide | (simp only [List.length_cons, List.length_nil] <;> omega)) only [push_cast, ↓reduceIte, Nat.reduceLT, Nat.reduceEqDiff, reduceCtorEq, Nat.reduceAdd, if_true, if_false, true_and, and_true, kn, kd, kt, hn, hd, ha, h43]
    refine condV_of (fun hlt => ?_) (fun hge => ?_)
    · have hi : i < n.insts.length := by have := hlt; simp at this; omega
      have r2 := r1.sub hg.sub
      have hN2 := hN.sub hg.sub
      obtain ⟨cs, ⟨pv, rfl, hpv⟩, hld, -, -⟩ := r2.i.get hi default
      replace hld := hld _ agI
      have hpl := ok.pins _ (getD_mem hi default)
      have hdrop : n.insts.drop i = n.insts.getD i default :: n.insts.drop (i + 1) := by
        rw [List.drop_eq_getElem_cons hi]
        simp [List.getD_eq_getElem?_getD, hi]
      rw [hdrop] at hgo
      generalize n.insts.getD i default = x at *
      have hone : [Value.int .i64 x.cell, pv].all oneC = true := by simp only [List.all_cons, List.all_nil, hpv.one]; rfl
      have hst := fun (hh : AH) cs e hl => stN agI hh cs e [Value.int .i64 x.cell, pv] hl rfl hone
      have hg2 := hg.new (.row [Value.int .i64 x.cell, pv] 36 true)
      have hs2 := Sub.new hg.wf (.row [Value.int .i64 x.cell, pv] 36 true)
      have hI := CsAt.new h' [Value.int .i64 x.cell, pv] 36 true
      simp (disch := first | omega | decide | (simp only [List.length_cons, List.length_nil] <;> omega)) only [push_cast, ↓reduceIte, Nat.reduceLT, Nat.reduceEqDiff, reduceCtorEq, Nat.reduceAdd, if_true, if_false, true_and, and_true, kn, kd, kt, hn, hd, ha, h43, r2.i.idx Tryz.underlying24 infI, hld, alL zrI, hst, faL foI0, faL foI1, hI.ld fl3]
      generalize h'.new (.row [Value.int .i64 x.cell, pv] 36 true) = h2 at hg2 hs2 hI ⊢
      generalize h'.next = C at hI ⊢
      have r3 := r2.sub hs2
      have hN3 := hN2.sub hs2
      have hpv3 := hpv.sub hs2
      have loop2 : ∀ e, instE n x = e → e ≠ 0 → shapeE n = e := by
        intro e he h0
        rw [hS, ← hgo]; simp only [instsGo, he, ne_eq, h0, not_false_eq_true, if_true]
      refine wantM_not (fun e4 => ?_) (fun e4 => ?_)
      · have hE := loop2 1 (by simp only [instE, e4, Bool.true_or, if_true]) (by decide)
        simp (disch := first | omega | decide | (simp only [List.length_cons, List.length_nil] <;> omega)) only [push_cast, ↓reduceIte, Nat.reduceLT, Nat.reduceEqDiff, reduceCtorEq, Nat.reduceAdd, if_true, if_false, true_and, and_true, kn, kd, kt, hn, hd, ha, h43, e4, hE]
      simp (disch := first | omega | decide | (simp only [List.length_cons, List.length_nil] <;> omega)) only [push_cast, ↓reduceIte, Nat.reduceLT, Nat.reduceEqDiff, reduceCtorEq, Nat.reduceAdd, if_true, if_false, true_and, and_true, kn, kd, kt, hn, hd, ha, h43, e4, faL foI0, faL foI1, hI.ld fl3, faL foN0, faL foN1, faL foN2, faL foN3, faL foN4, hN3.l0, hN3.l1, hN3.l2, hN3.l3, hN3.l4, hN3.la, r3.c.len Tryz.underlying22]
      refine condV_of (fun e5 => ?_) (fun e5 => ?_)
      · have hE := loop2 1 (by simp only [instE, e4, e5, Bool.false_or, if_true]) (by decide)
        simp (disch := first | omega | decide | (simp only [List.length_cons, List.length_nil] <;> omega)) only [push_cast, ↓reduceIte, Nat.reduceLT, Nat.reduceEqDiff, reduceCtorEq, Nat.reduceAdd, if_true, if_false, true_and, and_true, kn, kd, kt, hn, hd, ha, h43, hE]
      have hc0 : 0 ≤ x.cell := by simpa using e4
      have hc1 : x.cell < n.cells.length := by simpa using e5
      obtain ⟨cs, ⟨dv, rfl, hdv⟩, -, hfl, hfa⟩ := r3.c.get (i := x.cell.toNat) (by omega) default
      have hfa1 := hfa _ _ _ foC1
      have hfl1 := hfl 1 _ fl3 (by decide)
      simp (disch := first | omega | decide | (simp only [List.length_cons, List.length_nil] <;> omega)) only [push_cast, ↓reduceIte, Nat.reduceLT, Nat.reduceEqDiff, reduceCtorEq, Nat.reduceAdd, if_true, if_false, true_and, and_true, kn, kd, kt, hn, hd, ha, h43]
      refine AW.drawT (.take 0 [11, 10, 2, 1] (.take 1 [11, 10, 2] (.take 2 [11, 10] (.take 3 [11, 10, 9, 8, 7, 4] (.take 4 [11, 10, 9, 8, 7] (.take 5 [11, 10, 9, 8, 7, 6] (.take 6 [11, 10, 9, 8, 7] (.take 7 [11, 10, 9, 8] (.take 8 [11, 10, 9] (.take 9 [11, 10] (.take 10 [11] (.take 11 [] .done)))))))))))) [0, 0, 0, 0, 0, 0, 0, 0, 0, 0, 0, 0] mixed (by kernel_rfl) (by kernel_rfl) ?_
      simp (disch := first | omega | decide | (simp only [List.length_cons, List.length_nil] <;> omega)) only [push_cast, ↓reduceIte, Nat.reduceLT, Nat.reduceEqDiff, reduceCtorEq, Nat.reduceAdd, if_true, if_false, true_and, and_true, kn, kd, kt, hn, hd, ha, h43, faL foI0, faL foI1, hI.ld fl3, hI.ld flI, faL foN0, faL foN1, faL foN2, faL foN3, faL foN4, hN3.l0, hN3.l1, hN3.l2, hN3.l3, hN3.l4, hN3.la, hpv3.lenA Tryz.underlying25, r3.c.idx Tryz.underlying22 infC, hfa1, hfl1]
      have hC : instE n x = if (x.pins.length : Int) ≠ (n.cells.getD x.cell.toNat default).pins then 12 else if x.pins.any (badB n) = true then 1 else 0 := by
        simp only [instE, e4, e5, Bool.false_or, Bool.false_eq_true, if_false]
      refine condV_not (fun e6 => ?_) (fun e6 => ?_)
      · have e : ¬ (x.pins.length : Int) = (n.cells.getD x.cell.toNat default).pins := by simpa using e6
        have hE := loop2 12 (by rw [hC, if_pos e]) (by decide)
        simp (disch := first | omega | decide | (simp only [List.length_cons, List.length_nil] <;> omega)) only [push_cast, ↓reduceIte, Nat.reduceLT, Nat.reduceEqDiff, reduceCtorEq, Nat.reduceAdd, if_true, if_false, true_and, and_true, kn, kd, kt, hn, hd, ha, h43, hE]
      have e6' : (x.pins.length : Int) = (n.cells.getD x.cell.toNat default).pins := by simpa using e6
      rw [if_neg (fun x => x e6')] at hC
      simp (disch := first | omega | decide | (simp only [List.length_cons, List.length_nil] <;> omega)) only [push_cast, ↓reduceIte, Nat.reduceLT, Nat.reduceEqDiff, reduceCtorEq, Nat.reduceAdd, if_true, if_false, true_and, and_true, kn, kd, kt, hn, hd, ha, h43]
      refine AW.drawP (.take 0 [5, 4, 1] (.take 2 [5, 4, 3] (.watch 1 [5, 4] (.only 3 (.only 4 (.take 5 [] .done)))))) [(0, 0), (0, 2), (1, 1), (2, 3), (2, 4), (0, 5)] mixed (by kernel_rfl) (by kernel_rfl) ?_
      simp (disch := first | omega | decide | (simp only [List.length_cons, List.length_nil] <;> omega)) only [push_cast, ↓reduceIte, Nat.reduceLT, Nat.reduceEqDiff, reduceCtorEq, Nat.reduceAdd, if_true, if_false, true_and, and_true, kn, kd, kt, hn, hd, ha, h43, faL foI0, faL foI1, hI.ld flI, faL foN0, faL foN1, faL foN2, faL foN3, faL foN4, hN3.l0, hN3.l1, hN3.l2, hN3.l3, hN3.l4, hN3.la]
      refine ACall.mono ?_ (bad r3)
      rintro _ h4 ⟨rfl, rfl⟩
      simp (disch := first | omega | decide | (simp only [List.length_cons, List.length_nil] <;> omega)) only [push_cast, ↓reduceIte, Nat.reduceLT, Nat.reduceEqDiff, reduceCtorEq, Nat.reduceAdd, if_true, if_false, true_and, and_true, kn, kd, kt, hn, hd, ha, h43]
      have hI4 := fun o => (hI.sub (Sub.new hg2.wf o)).ld fl3
      have hI5 := fun o => (hI.sub (Sub.new hg2.wf o)).ld flI
      have hs4 := Sub.new hg2.wf (.row (netC n cv fv iv ov) 27 true)
      have hg4 := hg2.new (.row (netC n cv fv iv ov) 27 true)
      have hN4 := NetAt.new (h := h2) (n := n) (cv := cv) (fv := fv) (iv := iv) (ov := ov)
      have hI6 := (hI.sub (Sub.new hg2.wf (.row (netC n cv fv iv ov) 27 true))).ld flI
      simp (disch := first | omega | decide | (simp only [List.length_cons, List.length_nil] <;> omega)) only [push_cast, ↓reduceIte, Nat.reduceLT, Nat.reduceEqDiff, reduceCtorEq, Nat.reduceAdd, if_true, if_false, true_and, and_true, kn, kd, kt, hn, hd, ha, h43, hI5]
      generalize h2.new (.row (netC n cv fv iv ov) 27 true) = h4 at hs4 hg4 hN4 hI6 ⊢
      generalize hDe : h2.next = D at hN4 ⊢
      refine ACall.mono ?_ (containsI (h := h4) (f := .func (.func 118) #[] #[.pointer (some ⟨D, 0, none⟩)]) (p := badB n) (hpv3.sub hs4) (fun x _ => bad1 (r3.sub hs4) hsm hN4) hpl)
      rintro _ h4 ⟨rfl, rfl⟩
      simp (disch := first | omega | decide | (simp only [List.length_cons, List.length_nil] <;> omega)) only [push_cast, ↓reduceIte, Nat.reduceLT, Nat.reduceEqDiff, reduceCtorEq, Nat.reduceAdd, if_true, if_false, true_and, and_true, kn, kd, kt, hn, hd, ha, h43, hI6]
      refine condV_of (fun e7 => ?_) (fun e7 => ?_)
      · have hE := loop2 1 (by rw [hC, if_pos e7]) (by decide)
        simp (disch := first | omega | decide | (simp only [List.length_cons, List.length_nil] <;> omega)) only [push_cast, ↓reduceIte, Nat.reduceLT, Nat.reduceEqDiff, reduceCtorEq, Nat.reduceAdd, if_true, if_false, true_and, and_true, kn, kd, kt, hn, hd, ha, h43, hE]
      · have e7' : ¬ x.pins.any (badB n) = true := by rw [e7]; decide
        simp (disch := first | omega | decide | (simp only [List.length_cons, List.length_nil] <;> omega)) only [push_cast, ↓reduceIte, Nat.reduceLT, Nat.reduceEqDiff, reduceCtorEq, Nat.reduceAdd, if_true, if_false, true_and, and_true, kn, kd, kt, hn, hd, ha, h43, wrapI]
        refine ⟨m - 1, by omega, (by simp (disch := decide) only [Kp_put, put_none, hk]), hg4, i + 1, by simp (disch := first | omega | decide | (simp only [List.length_cons, List.length_nil] <;> omega)) only [push_cast, ↓reduceIte, Nat.reduceLT, Nat.reduceEqDiff, reduceCtorEq, Nat.reduceAdd, if_true, if_false, true_and, and_true], by omega, ?_⟩
        rw [← hgo]
        simp only [instsGo, hC, if_neg e7', ne_eq, not_true_eq_false, if_false]
    · have hi : n.insts.length ≤ i := by have := hge; simp at this; omega
      rw [List.drop_of_length_le hi] at hgo
      have hG : instsGo n n.insts = 0 := by rw [← hgo]; rfl
      rw [if_neg (fun x => x hG)] at hS
      have r2 := r1.sub hg.sub
      have hN2 := hN.sub hg.sub
      clear hgo h43 him hi
      simp (disch := first | omega | decide | (simp only [List.length_cons, List.length_nil] <;> omega)) only [push_cast, ↓reduceIte, Nat.reduceLT, Nat.reduceEqDiff, reduceCtorEq, Nat.reduceAdd, if_true, if_false, true_and, and_true, kn, kd, kt, hn, hd, ha, faL foN0, faL foN1, faL foN2, faL foN3, faL foN4, hN2.l0, hN2.l1, hN2.l2, hN2.l3, hN2.l4, hN2.la, r2.f.len Tryz.underlying23]
      refine AW.loopN 81 [2, 5, 6, 7, 8, 43, 81] (fun m a' h' => Gr h1 h' ∧ ∃ i : Nat, a'.tm 81 = .int .i64 i ∧ i + m = n.flops.length ∧ (n.flops.drop i).any (flopB n) = n.flops.any (flopB n)) n.flops.length ?_ ?_
      · exact ⟨hg, 0, by simp (disch := first | omega | decide | (simp only [List.length_cons, List.length_nil] <;> omega)) only [push_cast, ↓reduceIte, Nat.reduceLT, Nat.reduceEqDiff, reduceCtorEq, Nat.reduceAdd, if_true, if_false, true_and, and_true], by omega, rfl⟩
      · rintro b1 m2 b h5 hk2 kn2 kd2 kt2 ⟨hg5, i, h81, him, hany⟩
        have r5 := r1.sub hg5.sub
        have hN5 := hN.sub hg5.sub
        simp (disch := first | omega | decide | (simp only [List.length_cons, List.length_nil] <;> omega)) only [push_cast, ↓reduceIte, Nat.reduceLT, Nat.reduceEqDiff, reduceCtorEq, Nat.reduceAdd, if_true, if_false, true_and, and_true, kn2, kd2, kt2, kn, kd, kt, hn, hd, ha, h81]
        refine condV_of (fun hlt => ?_) (fun hge => ?_)
        · have hi : i < n.flops.length := by have := hlt; simp at this; omega
          obtain ⟨cs, rfl, hld, -, -⟩ := r5.f.get hi default
          replace hld := hld _ agF
          rw [any_drop hi default] at hany
          generalize n.flops.getD i default = x at *
          have hst := fun (hh : AH) cs e hl => stN agF hh cs e [Value.int .i64 x.next, .int .u8 x.init] hl rfl rfl
          have hg6 := hg5.new (.row [Value.int .i64 x.next, .int .u8 x.init] 65 true)
          have hs6 := Sub.new hg5.wf (.row [Value.int .i64 x.next, .int .u8 x.init] 65 true)
          have hI6 := CsAt.new h5 [Value.int .i64 x.next, .int .u8 x.init] 65 true
          simp (disch := first | omega | decide | (simp only [List.length_cons, List.length_nil] <;> omega)) only [push_cast, ↓reduceIte, Nat.reduceLT, Nat.reduceEqDiff, reduceCtorEq, Nat.reduceAdd, if_true, if_false, true_and, and_true, kn2, kd2, kt2, kn, kd, kt, hn, hd, ha, h81, r5.f.idx Tryz.underlying23 infF, hld, alL zrF, hst]
          generalize h5.new (.row [Value.int .i64 x.next, .int .u8 x.init] 65 true) = h6 at hg6 hs6 hI6 ⊢
          generalize h5.next = C at hI6 ⊢
          have r6 := r5.sub hs6
          have hN6 := hN5.sub hs6
          refine AW.drawP (.take 0 [9, 8, 7, 6, 5, 4, 1] (.take 2 [9, 8, 7, 6, 5, 4, 3] (.watch 3 [9, 8, 7, 6, 5, 4] (.only 1 (.only 4 (.take 5 [9, 8, 7, 6] (.take 6 [9, 8, 7] (.take 7 [9, 8] (.take 8 [9] (.take 9 [] .done)))))))))) [(0, 0), (0, 2), (1, 3), (2, 1), (2, 4), (0, 5), (0, 6), (0, 7), (0, 8), (0, 9)] mixed (by kernel_rfl) (by kernel_rfl) ?_
          simp (disch := first | omega | decide | (simp only [List.length_cons, List.length_nil] <;> omega)) only [push_cast, ↓reduceIte, Nat.reduceLT, Nat.reduceEqDiff, reduceCtorEq, Nat.reduceAdd, if_true, if_false, true_and, and_true, kn2, kd2, kt2, kn, kd, kt, hn, hd, ha, h81, faL foF0, faL foF1, hI6.ld fl3, faL foN0, faL foN1, faL foN2, faL foN3, faL foN4, hN6.l0, hN6.l1, hN6.l2, hN6.l3, hN6.l4, hN6.la]
          refine ACall.mono ?_ (bad r6)
          rintro _ h7 ⟨rfl, rfl⟩
          have hI7 := fun o => (hI6.sub (Sub.new hg6.wf o)).ld fl3
          have hs7 := Sub.new hg6.wf (.row (netC n cv fv iv ov) 27 true)
          have hg7 := hg6.new (.row (netC n cv fv iv ov) 27 true)
          have hN7 := NetAt.new (h := h6) (n := n) (cv := cv) (fv := fv) (iv := iv) (ov := ov)
          have hI8 := (hI6.sub (Sub.new hg6.wf (.row (netC n cv fv iv ov) 27 true))).ld fl5
          have hI9 := (hI6.sub (Sub.new hg6.wf (.row (netC n cv fv iv ov) 27 true))).ld fl3
          simp (disch := first | omega | decide | (simp only [List.length_cons, List.length_nil] <;> omega)) only [push_cast, ↓reduceIte, Nat.reduceLT, Nat.reduceEqDiff, reduceCtorEq, Nat.reduceAdd, if_true, if_false, true_and, and_true, kn2, kd2, kt2, kn, kd, kt, hn, hd, ha, h81, hI7]
          generalize h6.new (.row (netC n cv fv iv ov) 27 true) = h7 at hs7 hg7 hN7 hI8 hI9 ⊢
          generalize h6.next = D at hN7 ⊢
          refine ACall.mono ?_ (bad1 (r6.sub hs7) hsm hN7)
          rintro _ h7 ⟨rfl, rfl⟩
          simp (disch := first | omega | decide | (simp only [List.length_cons, List.length_nil] <;> omega)) only [push_cast, ↓reduceIte, Nat.reduceLT, Nat.reduceEqDiff, reduceCtorEq, Nat.reduceAdd, if_true, if_false, true_and, and_true, kn2, kd2, kt2, kn, kd, kt, hn, hd, ha, h81, hI9]
          refine wantS_not (fun e8 => ?_) (fun e8 => ?_)
          · have hF : n.flops.any (flopB n) = true := by rw [← hany]; simp only [flopB, e8, Bool.true_or]
            rw [if_pos hF] at hS
            simp (disch := first | omega | decide | (simp only [List.length_cons, List.length_nil] <;> omega)) only [push_cast, ↓reduceIte, Nat.reduceLT, Nat.reduceEqDiff, reduceCtorEq, Nat.reduceAdd, if_true, if_false, true_and, and_true, kn2, kd2, kt2, kn, kd, kt, hn, hd, ha, h81, e8, hS]
          simp (disch := first | omega | decide | (simp only [List.length_cons, List.length_nil] <;> omega)) only [push_cast, ↓reduceIte, Nat.reduceLT, Nat.reduceEqDiff, reduceCtorEq, Nat.reduceAdd, if_true, if_false, true_and, and_true, kn2, kd2, kt2, kn, kd, kt, hn, hd, ha, h81, e8, faL foF0, faL foF1, hI8]
          refine condV_of (fun e9 => ?_) (fun e9 => ?_)
          · have hF : n.flops.any (flopB n) = true := by rw [← hany]; simp only [flopB, e8, e9, Bool.true_or, Bool.false_or]
            rw [if_pos hF] at hS
            simp (disch := first | omega | decide | (simp only [List.length_cons, List.length_nil] <;> omega)) only [push_cast, ↓reduceIte, Nat.reduceLT, Nat.reduceEqDiff, reduceCtorEq, Nat.reduceAdd, if_true, if_false, true_and, and_true, kn2, kd2, kt2, kn, kd, kt, hn, hd, ha, hS]
          · simp (disch := first | omega | decide | (simp only [List.length_cons, List.length_nil] <;> omega)) only [push_cast, ↓reduceIte, Nat.reduceLT, Nat.reduceEqDiff, reduceCtorEq, Nat.reduceAdd, if_true, if_false, true_and, and_true, kn2, kd2, kt2, kn, kd, kt, hn, hd, ha, h81, wrapI]
            refine ⟨m2 - 1, by omega, (by simp (disch := decide) only [Kp_put, put_none, hk2]), hg7, i + 1, by simp (disch := first | omega | decide | (simp only [List.length_cons, List.length_nil] <;> omega)) only [push_cast, ↓reduceIte, Nat.reduceLT, Nat.reduceEqDiff, reduceCtorEq, Nat.reduceAdd, if_true, if_false, true_and, and_true], by omega, ?_⟩
            rw [← hany]; simp only [flopB, e8, e9, Bool.false_or]
        · have hi : n.flops.length ≤ i := by have := hge; simp at this; omega
          rw [List.drop_of_length_le hi] at hany
          have hF : ¬ n.flops.any (flopB n) = true := by rw [← hany]; simp
          rw [if_neg hF] at hS
          simp (disch := first | omega | decide | (simp only [List.length_cons, List.length_nil] <;> omega)) only [push_cast, ↓reduceIte, Nat.reduceLT, Nat.reduceEqDiff, reduceCtorEq, Nat.reduceAdd, if_true, if_false, true_and, and_true, kn2, kd2, kt2, kn, kd, kt, hn, hd, ha]
          refine AW.drawP (.take 0 [4, 1] (.take 2 [4, 3] (.watch 1 [4] (.only 3 (.only 4 .done))))) [(0, 0), (0, 2), (1, 1), (2, 3), (2, 4)] mixed (by kernel_rfl) (by kernel_rfl) ?_
          simp (disch := first | omega | decide | (simp only [List.length_cons, List.length_nil] <;> omega)) only [push_cast, ↓reduceIte, Nat.reduceLT, Nat.reduceEqDiff, reduceCtorEq, Nat.reduceAdd, if_true, if_false, true_and, and_true, kn2, kd2, kt2, kn, kd, kt, hn, hd, ha, faL foN0, faL foN1, faL foN2, faL foN3, faL foN4, hN5.l0, hN5.l1, hN5.l2, hN5.l3, hN5.l4, hN5.la]
          refine ACall.mono ?_ (bad r5)
          rintro _ h6 ⟨rfl, rfl⟩
          have hs6 := Sub.new hg5.wf (.row (netC n cv fv iv ov) 27 true)
          have hN6 := NetAt.new (h := h5) (n := n) (cv := cv) (fv := fv) (iv := iv) (ov := ov)
          have hN7 := fun o => hN5.sub (Sub.new hg5.wf o)
          have hl7 := (hN5.sub (Sub.new hg5.wf (.row (netC n cv fv iv ov) 27 true))).l4
          simp (disch := first | omega | decide | (simp only [List.length_cons, List.length_nil] <;> omega)) only [push_cast, ↓reduceIte, Nat.reduceLT, Nat.reduceEqDiff, reduceCtorEq, Nat.reduceAdd, if_true, if_false, true_and, and_true, kn2, kd2, kt2, kn, kd, kt, hn, hd, ha, hl7]
          generalize h5.new (.row (netC n cv fv iv ov) 27 true) = h6 at hs6 hN6 hl7 ⊢
          generalize h5.next = D at hN6 ⊢
          refine ACall.mono ?_ (containsI (h := h6) (f := .func (.func 118) #[] #[.pointer (some ⟨D, 0, none⟩)]) (p := badB n) (r5.sub hs6).o (fun x _ => bad1 (r5.sub hs6) hsm hN6) ok.ol)
          rintro _ h6 ⟨rfl, rfl⟩
          simp (disch := first | omega | decide | (simp only [List.length_cons, List.length_nil] <;> omega)) only [push_cast, ↓reduceIte, Nat.reduceLT, Nat.reduceEqDiff, reduceCtorEq, Nat.reduceAdd, if_true, if_false, true_and, and_true, kn2, kd2, kt2, kn, kd, kt, hn, hd, ha, hl7]
          refine condV_of (fun e7 => ?_) (fun e7 => ?_)
          · rw [if_pos e7] at hS
            simp (disch := first | omega | decide | (simp only [List.length_cons, List.length_nil] <;> omega)) only [push_cast, ↓reduceIte, Nat.reduceLT, Nat.reduceEqDiff, reduceCtorEq, Nat.reduceAdd, if_true, if_false, true_and, and_true, kn2, kd2, kt2, kn, kd, kt, hn, hd, ha, hS]
          · rw [if_neg (by rw [e7]; decide)] at hS
            simp (disch := first | omega | decide | (simp only [List.length_cons, List.length_nil] <;> omega)) only [push_cast, ↓reduceIte, Nat.reduceLT, Nat.reduceEqDiff, reduceCtorEq, Nat.reduceAdd, if_true, if_false, true_and, and_true, kn2, kd2, kt2, kn, kd, kt, hn, hd, ha, hS]

theorem shape {h : AH} {n : Net} {cv fv iv ov : Value} (r : NetR h n cv fv iv ov) (ok : NetOK n) :
    ACall Tryz.prog 69 [.agg (netC n cv fv iv ov).toArray] h (fun v h' => v = .int .i64 (shapeE n) ∧ h' = h) :=
  ACall.viewed rfl (shapeR r.view ok)

end Go.Ab.S1

namespace Go.Ab.S1
open Go.Proofs

def pinsOf (n : Net) (i : Nat) : List Int := (n.insts.getD i default).pins

/-- What a valid shape tells. -/
structure ShapeOK (n : Net) : Prop where
  cells : (cellsE n.cells).2 = 0
  i0 : 0 ≤ n.inputs
  i1 : n.inputs ≤ 64
  fl : n.flops.length ≤ 64
  ol : n.outs.length ≤ 64
  il : n.insts.length ≤ 4096
  cell : ∀ x ∈ n.insts, 0 ≤ x.cell ∧ x.cell < n.cells.length ∧ (x.pins.length : Int) = (n.cells.getD x.cell.toNat default).pins
  pin : ∀ x ∈ n.insts, ∀ p ∈ x.pins, -2 ≤ p ∧ p < firstE n + n.insts.length
  flop : ∀ x ∈ n.flops, (-2 ≤ x.next ∧ x.next < firstE n + n.insts.length) ∧ x.init ≤ 1
  out : ∀ p ∈ n.outs, -2 ≤ p ∧ p < firstE n + n.insts.length

theorem badB_false {n : Net} {x : Int} : badB n x = false ↔ -2 ≤ x ∧ x < firstE n + n.insts.length := by
  simp only [badB, Bool.or_eq_false_iff, decide_eq_false_iff_not]; omega

theorem instsGo_zero {n : Net} : ∀ {l : List Inst}, instsGo n l = 0 → ∀ x ∈ l, instE n x = 0 := by
  intro l
  induction l with
  | nil => intro _ x hx; simp at hx
  | cons y l ih =>
    intro h x hx
    simp only [instsGo] at h
    by_cases hy : instE n y = 0
    · rw [if_neg (fun z => z hy)] at h
      rcases List.mem_cons.1 hx with rfl | hx
      · exact hy
      · exact ih h x hx
    · rw [if_pos hy] at h; exact absurd h hy

theorem instE_zero {n : Net} {x : Inst} (h : instE n x = 0) : (0 ≤ x.cell ∧ x.cell < n.cells.length ∧ (x.pins.length : Int) = (n.cells.getD x.cell.toNat default).pins) ∧ ∀ p ∈ x.pins, -2 ≤ p ∧ p < firstE n + n.insts.length := by
  unfold instE at h
  split at h
  · omega
  · rename_i h1
    split at h
    · omega
    · rename_i h2
      split at h
      · omega
      · rename_i h3
        simp only [Bool.or_eq_true, decide_eq_true_eq, not_or] at h1
        have h2' : (x.pins.length : Int) = (n.cells.getD x.cell.toNat default).pins := Classical.not_not.1 h2
        refine ⟨⟨by omega, by omega, h2'⟩, fun p hp => badB_false.1 ?_⟩
        cases hb : badB n p with
        | false => rfl
        | true => exact absurd (List.any_eq_true.2 ⟨p, hp, hb⟩) h3

theorem ShapeOK.of {n : Net} (h : shapeE n = 0) : ShapeOK n := by
  unfold shapeE at h
  split at h
  · omega
  rename_i h1
  split at h
  · omega
  rename_i h2
  split at h
  · omega
  rename_i h3
  split at h
  · omega
  rename_i h4
  split at h
  · omega
  rename_i h5
  split at h
  · omega
  rename_i h6
  have h1' : (cellsE n.cells).2 = 0 := Classical.not_not.1 h1
  have h4' : instsGo n n.insts = 0 := Classical.not_not.1 h4
  simp only [bigB, Bool.or_eq_true, decide_eq_true_eq, not_or] at h3
  refine ⟨h1', by omega, by omega, by omega, by omega, by omega, fun x hx => (instE_zero (instsGo_zero h4' x hx)).1, fun x hx => (instE_zero (instsGo_zero h4' x hx)).2, fun x hx => ?_, fun p hp => ?_⟩
  · have : flopB n x = false := by
      cases hb : flopB n x with
      | false => rfl
      | true => exact absurd (List.any_eq_true.2 ⟨x, hx, hb⟩) h5
    simp only [flopB, Bool.or_eq_false_iff, decide_eq_false_iff_not] at this
    exact ⟨badB_false.1 this.1, by omega⟩
  · cases hb : badB n p with
    | false => exact badB_false.1 hb
    | true => exact absurd (List.any_eq_true.2 ⟨p, hp, hb⟩) h6

theorem cellsGo_zero : ∀ (l pre : List Cell) (i : Nat), (cellsGo pre i l).2 = 0 → ∀ c ∈ l, checkE c = 0 := by
  intro l
  induction l with
  | nil => intro _ _ _ c hc; simp at hc
  | cons d l ih =>
    intro pre i h c hc
    simp only [cellsGo] at h
    split at h
    · rename_i h0; exact absurd h h0
    · rename_i h0
      split at h
      · simp at h
      · rcases List.mem_cons.1 hc with rfl | hc
        · exact Classical.not_not.1 h0
        · exact ih _ _ h c hc

theorem cellsE_zero {l : List Cell} (h : (cellsE l).2 = 0) : ∀ c ∈ l, checkE c = 0 := by
  unfold cellsE at h
  split at h
  · simp at h
  · exact cellsGo_zero l [] 0 h

theorem checkE_pins {c : Cell} (h : checkE c = 0) : 1 ≤ c.pins ∧ c.pins ≤ 4 ∧ validE c.table c.pins = true ∧ (c.delay.length : Int) = c.pins := by
  unfold checkE at h
  split at h
  · omega
  split at h
  · omega
  rename_i h2
  split at h
  · omega
  rename_i h3
  have h3' : (c.delay.length : Int) = c.pins := Classical.not_not.1 h3
  simp only [Bool.or_eq_true, decide_eq_true_eq, not_or, Bool.not_eq_true', Bool.not_eq_false] at h2
  exact ⟨by omega, by omega, by simpa using h2.2.2.1, h3'⟩

theorem ShapeOK.pins4 {n : Net} (s : ShapeOK n) {x : Inst} (hx : x ∈ n.insts) : x.pins.length ≤ 4 := by
  obtain ⟨h0, h1, h2⟩ := s.cell x hx
  have hlt : x.cell.toNat < n.cells.length := by omega
  have hc := checkE_pins (cellsE_zero s.cells _ (getD_mem hlt default))
  omega

theorem ShapeOK.pinsOf4 {n : Net} (s : ShapeOK n) {i : Nat} (hi : i < n.insts.length) : (pinsOf n i).length ≤ 4 := s.pins4 (getD_mem hi default)
theorem ShapeOK.pinOf {n : Net} (s : ShapeOK n) {i : Nat} (hi : i < n.insts.length) {p : Int} (hp : p ∈ pinsOf n i) : -2 ≤ p ∧ p < firstE n + n.insts.length := s.pin _ (getD_mem hi default) p hp

/-- How many pins of an instance still wait: those at instances outside O. -/
def remB (n : Net) (O : List Int) (p : Int) : Bool := decide (firstE n ≤ p) && !decide (p - firstE n ∈ O)
def rem (n : Net) (O : List Int) (j : Nat) : Nat := (pinsOf n j).countP (remB n O)

theorem countP_split {O : List Int} {n : Net} {i : Int} (hi : i ∉ O) : ∀ l : List Int, l.countP (remB n O) = l.countP (remB n (O ++ [i])) + (if 0 ≤ i then l.count (firstE n + i) else l.countP fun p => decide (p - firstE n = i) && decide (firstE n ≤ p)) := by
  intro l
  induction l with
  | nil => simp
  | cons p l ih =>
    rw [List.countP_cons, List.countP_cons, ih]
    by_cases h0 : 0 ≤ i
    · simp only [if_pos h0]
      rw [List.count_cons]
      by_cases hp : p = firstE n + i
      · subst hp
        have e : firstE n + i - firstE n = i := by omega
        have h1 : firstE n ≤ firstE n + i := by omega
        have h2 : i ∉ O := hi
        simp [remB, e, h0, h2, h1]; omega
      · have e : ¬ (p - firstE n = i) := by omega
        have hb : ¬ ((p == firstE n + i) = true) := by simpa using hp
        simp [remB, e, hb, hp]; omega
    · simp only [if_neg h0]
      rw [List.countP_cons]
      by_cases hp : p - firstE n = i
      · have hq : ¬ firstE n ≤ p := by omega
        simp [remB, hq]
      · simp [remB, hp]; omega

theorem rem_push {n : Net} {O : List Int} {i : Int} (hi : i ∉ O) (h0 : 0 ≤ i) (j : Nat) : rem n O j = rem n (O ++ [i]) j + (pinsOf n j).count (firstE n + i) := by
  unfold rem
  rw [countP_split hi, if_pos h0]

theorem rem_zero {n : Net} {O : List Int} {j : Nat} (h : rem n O j = 0) {p : Int} (hp : p ∈ pinsOf n j) (hF : firstE n ≤ p) : p - firstE n ∈ O := by
  unfold rem at h
  rw [List.countP_eq_zero] at h
  have := h p hp
  simp only [remB, Bool.and_eq_true, decide_eq_true_eq, Bool.not_eq_true', decide_eq_false_iff_not, not_and, Classical.not_not] at this
  exact this hF

theorem rem_pos {n : Net} {O : List Int} {j : Nat} (h : rem n O j ≠ 0) : ∃ p ∈ pinsOf n j, firstE n ≤ p ∧ p - firstE n ∉ O := by
  unfold rem at h
  rw [Ne, List.countP_eq_zero] at h
  simp only [remB, Bool.and_eq_true, decide_eq_true_eq, Bool.not_eq_true', decide_eq_false_iff_not] at h
  apply Classical.byContradiction
  intro hn
  exact h fun p hp ⟨a, b⟩ => hn ⟨p, hp, a, b⟩

/-- An order in which each instance stands behind those that its pins name. -/
structure Topo (n : Net) (O : List Int) : Prop where
  nodup : O.Nodup
  range : ∀ x ∈ O, 0 ≤ x ∧ x < n.insts.length
  before : ∀ (j : Nat) (x : Int), O[j]? = some x → ∀ p ∈ pinsOf n x.toNat, firstE n ≤ p → p - firstE n ∈ O.take j

theorem Topo.push {n : Net} {O : List Int} (t : Topo n O) {i : Int} (h0 : 0 ≤ i) (h1 : i < n.insts.length) (hi : i ∉ O) (hr : rem n O i.toNat = 0) : Topo n (O ++ [i]) := by
  refine ⟨?_, fun x hx => ?_, fun j x hj p hp hF => ?_⟩
  · rw [List.nodup_append]
    exact ⟨t.nodup, by simp, fun a ha b hb => by simp at hb; subst hb; rintro rfl; exact hi ha⟩
  · rcases List.mem_append.1 hx with hx | hx
    · exact t.range x hx
    · simp at hx; subst hx; exact ⟨h0, h1⟩
  · by_cases hlt : j < O.length
    · rw [List.getElem?_append_left hlt] at hj
      rw [List.take_append_of_le_length (by omega)]
      exact t.before j x hj p hp hF
    · rw [List.getElem?_append_right (by omega)] at hj
      have hj0 : j = O.length := by
        have := (List.getElem?_eq_some_iff.1 hj).1
        simp at this; omega
      subst hj0
      rw [Nat.sub_self] at hj
      cases hj
      rw [List.take_append_of_le_length (Nat.le_refl _), List.take_length]
      exact rem_zero hr hp hF

theorem nodup_le {N : Nat} {l : List Int} (hn : l.Nodup) (hr : ∀ x ∈ l, 0 ≤ x ∧ x < N) : l.length ≤ N := by
  by_cases h0 : l.length = 0
  · omega
  have hperm := sortL_perm l
  have hn' : (sortL l).Nodup := hperm.nodup_iff.2 hn
  have hs : (sortL l).Pairwise (fun x y => x < y) := by
    have h1 := sortL_sorted l
    rw [List.nodup_iff_pairwise_ne] at hn'
    exact (h1.and hn').imp (fun ⟨a, b⟩ => by omega)
  have hl := sortL_len l
  have hlt : l.length - 1 < (sortL l).length := by omega
  have a := climb hs (fun z hz => (hr z (hperm.mem_iff.1 hz)).1) (l.length - 1) hlt
  have b := hr _ (hperm.mem_iff.1 (List.getElem_mem hlt))
  omega

/-! ### The first phase -/

structure BuildP (n : Net) (i q : Nat) (M : List Int) (us : Nat → List Int) (R : List Int) : Prop where
  len : M.length = n.insts.length
  m : ∀ j, j < n.insts.length → M.getD j 0 = if j < i then (rem n [] j : Int) else if j = i then (((pinsOf n i).take q).countP (remB n []) : Int) else 0
  u : ∀ k, k < n.insts.length → ∀ j : Int, (us k).count j = if 0 ≤ j ∧ j < i then (pinsOf n j.toNat).count (firstE n + k) else if j = i then ((pinsOf n i).take q).count (firstE n + k) else 0
  ul : ∀ k, k < n.insts.length → (us k).length ≤ 4 * i + q
  nd : R.Nodup
  r : ∀ j : Int, j ∈ R ↔ 0 ≤ j ∧ j < i ∧ rem n [] j.toNat = 0

/-! ### The second phase -/

structure MainP (n : Net) (us : Nat → List Int) (O R : List Int) (M : List Int) (w : List Int) : Prop where
  len : M.length = n.insts.length
  m : ∀ j, j < n.insts.length → M.getD j 0 = (rem n O j : Int) + (w.count (j : Int) : Int)
  topo : Topo n O
  nd : (O ++ R).Nodup
  r : ∀ j : Int, j ∈ O ∨ j ∈ R ↔ 0 ≤ j ∧ j < n.insts.length ∧ M.getD j.toNat 0 = 0

end Go.Ab.S1

namespace Go.Ab.S1
open Go.Proofs
set_option linter.unusedSimpArgs false
set_option linter.unusedVariables false
set_option maxRecDepth 100000
set_option maxHeartbeats 4000000
attribute [local push_cast] wpA_skip wpA_ret wpA_exit wpA_seq wpA_block wpA_cond2 andK_true wpA_region wpA_draw wpA_loop thenQ_normal thenQ_ret thenQ_exit blockQ_normal blockQ_ret blockQ_exit condV_true condV_false opsM_nil opsM_cons2 okM_true wantM_true wantM_false stepM seqM_cons2 seqM_nil2 okS_true wantS_true wantS_false stepS skipS okB Keeps_nil contK_app List.zip_cons_cons List.zip_nil_left List.zip_nil_right Op.operands Call.operands Array.toList_append List.append_nil List.nil_append List.all_cons List.all_nil cOK plain put_n put_tm put_none put_df ev_tmp ev_const ev_func wanted_none wanted_some callR_func dop ex_some1 aBuiltin aBin intBin aUn Option.map_some Bool.and_true Bool.true_and Bool.and_self List.map_cons List.map_nil List.toList_toArray List.getElem?_toArray List.getElem?_cons_zero List.getElem?_cons_succ Option.getD_some Option.getD_none Bool.false_eq_true eq_self_iff_true decide_true decide_false List.cons_append aExtract resL resV List.getD_cons_zero List.getD_cons_succ List.getD_nil Nat.succ_ne_self g1 g2 yieldedA2 isB_bool isB_undef g3 Option.bind_some Option.bind_none bne_self_eq_false beq_self_eq_true Bool.not_true Bool.not_false Int.toNat_natCast List.length_map List.mem_cons List.not_mem_nil or_false not_false_eq_true decide_not Bool.not_not bodyR_ret2 bodyR_normal2 closeMarks_nil ex_some0 Nat.zero_add Nat.add_zero ieq ine List.map_toArray Option.toArray_none Option.toArray_some oev Keeps_cons Still_eq selL wpX_skip wpX_ret wpX_exit wpX_seq wpX_block wpX_cond wpX_region wpX_draw wpX_loop List.take_succ_cons List.take_zero List.drop_succ_cons List.drop_zero Int.zero_add Int.add_zero aNil

theorem slH : Sl1 Tryz.prog 111 3 := ⟨Tryz.underlying111, ⟨(Tryz.prog.info? 3).get (by kernel_rfl), by kernel_rfl, by kernel_rfl⟩, ⟨_, Tryz.underlying3, rfl⟩⟩
theorem slTH : SlT Tryz.prog 111 3 8 (.int .i64 0) := ⟨Tryz.underlying111, info3, ⟨_, Tryz.underlying3, rfl⟩, rfl, rfl, rfl⟩

theorem push1 {h : AH} {x y : Int} : ACall Tryz.prog 95 [.int .i64 x, .int .i64 y] h (fun r h' => (∃ k : Int, r = .int .i64 k) ∧ h' = h) := by
  refine ACall.of_wp 8 [.tmp 4] Tryz.func95 rfl (by kernel_rfl) rfl rfl fun a hn hd ha => ?_
  simp (disch := first | omega | decide | (simp only [List.length_cons, List.length_nil] <;> omega)) only [push_cast, ↓reduceIte, Nat.reduceLT, Nat.reduceEqDiff, reduceCtorEq, Nat.reduceAdd, if_true, if_false, true_and, and_true, hn, hd, ha]
  exact ⟨_, rfl⟩

theorem wrapU {x : Int} (h0 : 0 ≤ x) (h1 : x < 18446744073709551616) : IntKind.u64.wrap x = x := by
  unfold IntKind.wrap
  simp [IntKind.bits, IntKind.signed]
  omega
theorem half (i j : Nat) : (((i : Int) + (j : Int)).fdiv 2) = (((i + j) / 2 : Nat) : Int) := by
  rw [Int.fdiv_eq_ediv_of_nonneg _ (by omega)]; omega

theorem pow1 : (2 : Int) ^ min (Int.toNat 1) IntKind.u64.bits = 2 := by decide

theorem search {h : AH} {v : Value} {zs : List Int} {t : Int} (hv : SlOf h v (zs.map (.int .i64))) (hb : zs.length ≤ 4294967296) :
    ACall Tryz.prog 94 [v, .int .i64 t, .func (.func 95) #[] #[]] h (fun r h' => (∃ (p : Nat) (b : Bool), p ≤ zs.length ∧ r = .tuple #[.int .i64 p, .bool b]) ∧ h' = h) := by
  refine ACall.of_wp 49 [.tmp 6, .tmp 7] Tryz.func94 rfl (by kernel_rfl) rfl rfl fun a hn hd ha => ?_
  simp (disch := first | omega | decide | (simp only [List.length_cons, List.length_nil] <;> omega)) only [push_cast, ↓reduceIte, Nat.reduceLT, Nat.reduceEqDiff, reduceCtorEq, Nat.reduceAdd, if_true, if_false, true_and, and_true, hn, hd, ha, hv.lenA Tryz.underlying111]
  refine AW.loopN 15 [9, 10, 11] (fun m a' h' => h' = h ∧ ∃ i j : Nat, a'.tm 9 = .int .i64 i ∧ a'.tm 10 = .int .i64 j ∧ i + m = j ∧ j ≤ zs.length) zs.length ?_ ?_
  · exact ⟨rfl, 0, zs.length, by simp (disch := first | omega | decide | (simp only [List.length_cons, List.length_nil] <;> omega)) only [push_cast, ↓reduceIte, Nat.reduceLT, Nat.reduceEqDiff, reduceCtorEq, Nat.reduceAdd, if_true, if_false, true_and, and_true], by simp (disch := first | omega | decide | (simp only [List.length_cons, List.length_nil] <;> omega)) only [push_cast, ↓reduceIte, Nat.reduceLT, Nat.reduceEqDiff, reduceCtorEq, Nat.reduceAdd, if_true, if_false, true_and, and_true], by omega, by omega⟩
  · rintro a1 m a' h' hk kn kd kt ⟨rfl, i, j, h9, h10, him, hj⟩
    simp (disch := first | omega | decide | (simp only [List.length_cons, List.length_nil] <;> omega)) only [push_cast, ↓reduceIte, Nat.reduceLT, Nat.reduceEqDiff, reduceCtorEq, Nat.reduceAdd, if_true, if_false, true_and, and_true, kn, kd, kt, hn, hd, ha, h9, h10]
    refine condV_of (fun hlt => ?_) (fun hge => ?_)
    · have hij : i < j := by have := hlt; simp at this; omega
      have hmid : (i + j) / 2 < zs.length := by omega
      simp (disch := first | omega | decide | (simp only [List.length_cons, List.length_nil] <;> omega)) only [push_cast, ↓reduceIte, Nat.reduceLT, Nat.reduceEqDiff, reduceCtorEq, Nat.reduceAdd, if_true, if_false, true_and, and_true, kn, kd, kt, hn, hd, ha, h9, h10, aBytes_skip ⟨_, Tryz.underlying3⟩, aBytes_skip ⟨_, Tryz.underlying99⟩, aConvI Tryz.underlying3 Tryz.underlying99, aConvI Tryz.underlying99 Tryz.underlying3, shrR, pow1, half, wrapI, wrapU, hv.idxI slH, hv.ldI slH]
      refine ACall.mono ?_ push1
      rintro _ _ ⟨⟨k, rfl⟩, rfl⟩
      simp (disch := first | omega | decide | (simp only [List.length_cons, List.length_nil] <;> omega)) only [push_cast, ↓reduceIte, Nat.reduceLT, Nat.reduceEqDiff, reduceCtorEq, Nat.reduceAdd, if_true, if_false, true_and, and_true, kn, kd, kt, hn, hd, ha, h9, h10]
      refine condV_of (fun hc => ?_) (fun hc => ?_)
      · simp (disch := first | omega | decide | (simp only [List.length_cons, List.length_nil] <;> omega)) only [push_cast, ↓reduceIte, Nat.reduceLT, Nat.reduceEqDiff, reduceCtorEq, Nat.reduceAdd, if_true, if_false, true_and, and_true, kn, kd, kt, hn, hd, ha, h9, h10, wrapI]
        exact ⟨j - ((i + j) / 2 + 1), by omega, (by simp (disch := decide) only [Kp_put, put_none, hk]), rfl, (i + j) / 2 + 1, j, by simp (disch := first | omega | decide | (simp only [List.length_cons, List.length_nil] <;> omega)) only [push_cast, ↓reduceIte, Nat.reduceLT, Nat.reduceEqDiff, reduceCtorEq, Nat.reduceAdd, if_true, if_false, true_and, and_true, h10], by simp (disch := first | omega | decide | (simp only [List.length_cons, List.length_nil] <;> omega)) only [push_cast, ↓reduceIte, Nat.reduceLT, Nat.reduceEqDiff, reduceCtorEq, Nat.reduceAdd, if_true, if_false, true_and, and_true, h10], by omega, hj⟩
      · simp (disch := first | omega | decide | (simp only [List.length_cons, List.length_nil] <;> omega)) only [push_cast, ↓reduceIte, Nat.reduceLT, Nat.reduceEqDiff, reduceCtorEq, Nat.reduceAdd, if_true, if_false, true_and, and_true, kn, kd, kt, hn, hd, ha, h9, h10]
        exact ⟨(i + j) / 2 - i, by omega, (by simp (disch := decide) only [Kp_put, put_none, hk]), rfl, i, (i + j) / 2, by simp (disch := first | omega | decide | (simp only [List.length_cons, List.length_nil] <;> omega)) only [push_cast, ↓reduceIte, Nat.reduceLT, Nat.reduceEqDiff, reduceCtorEq, Nat.reduceAdd, if_true, if_false, true_and, and_true, h9], by simp (disch := first | omega | decide | (simp only [List.length_cons, List.length_nil] <;> omega)) only [push_cast, ↓reduceIte, Nat.reduceLT, Nat.reduceEqDiff, reduceCtorEq, Nat.reduceAdd, if_true, if_false, true_and, and_true], by omega, by omega⟩
    · have hij : i = j := by have := hge; simp at this; omega
      subst hij
      simp (disch := first | omega | decide | (simp only [List.length_cons, List.length_nil] <;> omega)) only [push_cast, ↓reduceIte, Nat.reduceLT, Nat.reduceEqDiff, reduceCtorEq, Nat.reduceAdd, if_true, if_false, true_and, and_true, kn, kd, kt, hn, hd, ha, h9, h10]
      refine wantM_of (fun hc => ?_) (fun hc => ?_)
      · have hi : i < zs.length := by simp at hc; omega
        simp (disch := first | omega | decide | (simp only [List.length_cons, List.length_nil] <;> omega)) only [push_cast, ↓reduceIte, Nat.reduceLT, Nat.reduceEqDiff, reduceCtorEq, Nat.reduceAdd, if_true, if_false, true_and, and_true, kn, kd, kt, hn, hd, ha, h9, h10, hc, hv.idxI slH, hv.ldI slH]
        refine ACall.mono ?_ push1
        rintro _ _ ⟨⟨k, rfl⟩, rfl⟩
        simp (disch := first | omega | decide | (simp only [List.length_cons, List.length_nil] <;> omega)) only [push_cast, ↓reduceIte, Nat.reduceLT, Nat.reduceEqDiff, reduceCtorEq, Nat.reduceAdd, if_true, if_false, true_and, and_true, kn, kd, kt, hn, hd, ha, h9, h10, hc]
        exact ⟨i, _, hj, rfl⟩
      · simp (disch := first | omega | decide | (simp only [List.length_cons, List.length_nil] <;> omega)) only [push_cast, ↓reduceIte, Nat.reduceLT, Nat.reduceEqDiff, reduceCtorEq, Nat.reduceAdd, if_true, if_false, true_and, and_true, kn, kd, kt, hn, hd, ha, h9, h10, hc]
        exact ⟨i, _, hj, rfl⟩

/-! ### slices.Insert -/

theorem undI : Tryz.prog.underlying 3 = some (.int .i64) := Tryz.underlying3

/-- Insertion at the end is an append. -/
theorem insertEnd {h : AH} {v : Value} {ob : Option AObj} {A B : Nat} {zs : List Value} {x : Int} {oB : AObj} (hw : WFH h) (hv : Vec 3 v ob A zs) (hg : ∀ o, ob = some o → h.get A = some o) (hB : h.get B = some oB) (hBc : oB.cells? = some [.int .i64 x]) (hb : zs.length ≤ 4294967296) :
    ACall Tryz.prog 96 [v, .int .i64 zs.length, .slice (some ⟨B, 0, none⟩) 1 1] h (fun r h' => VecUp 3 h ob A r (zs ++ [.int .i64 x]) h') := by
  refine ACall.of_wp 95 [.tmp 6] Tryz.func96 rfl (by kernel_rfl) rfl rfl fun a hn hd ha => ?_
  obtain ⟨r, h', happ, hup⟩ := appendV slTH ⟨_, Tryz.underlying25⟩ hw hv hg hB hBc rfl (by omega) (by omega)
  have hsl : ∃ r, aSlice Tryz.prog 111 v (some (.int .i64 zs.length)) none = some r := by
    have hb2 : bnd (some (.int .i64 (zs.length : Int))) 0 = some zs.length := by simp [bnd]
    have hb3 : bnd none zs.length = some zs.length := rfl
    obtain ⟨ie, hie, hs⟩ := slH.one
    rcases hv with ⟨rfl, rfl, _⟩ | ⟨cs, rfl, rfl, _, ht⟩ | ⟨cs, C, rfl, hc, hle, _, rfl, ht⟩
    · have hb2' : bnd (some (.int .i64 (([] : List Value).length : Int))) 0 = some 0 := rfl
      have hb3' : bnd none 0 = some 0 := rfl
      simp only [aSlice, Tryz.underlying111, hb2', hb3', hie]
      simp
    · have hn : ¬ (SL + 1 < SL) := by omega
      simp only [aSlice, Tryz.underlying111, hb2, hb3, hie]
      rw [if_neg hn, if_pos ⟨by rw [hs], by omega, by omega⟩]
      exact ⟨_, rfl⟩
    · have hn : C < SL := by unfold SL; omega
      simp only [aSlice, Tryz.underlying111, hb2, hb3, hie]
      rw [if_pos hn, if_pos ⟨by omega, by omega⟩]
      exact ⟨_, rfl⟩
  obtain ⟨r0, hsl⟩ := hsl
  have hl : aLen Tryz.prog 111 v h = some (.int .i64 zs.length) := (hv.sl hg).len Tryz.underlying111
  simp (disch := first | omega | decide | (simp only [List.length_cons, List.length_nil] <;> omega)) only [push_cast, ↓reduceIte, Nat.reduceLT, Nat.reduceEqDiff, reduceCtorEq, Nat.reduceAdd, if_true, if_false, true_and, and_true, hn, hd, ha, hsl, lenS Tryz.underlying25, hl, happ, decide_eq_false, decide_eq_true]
  exact hup

theorem ins_grow {cs : List Value} {C i k : Nat} {x z : Value} (hi : i < C) (hC : C ≤ cs.length) (hk : i + k = C + 1) :
    setL ((cs.take i ++ List.replicate k z).set i x) (i + 1) ((cs.drop i).take (C - i)) = (cs.take C).take i ++ [x] ++ (cs.take C).drop i := by
  obtain ⟨k, rfl⟩ : ∃ m, k = m + 1 := ⟨k - 1, by omega⟩
  have hl : (cs.take i).length = i := by simp; omega
  have e1 : (cs.take i ++ List.replicate (k + 1) z).set i x = (cs.take i ++ [x]) ++ List.replicate k z := by
    rw [List.set_append_right _ _ (by omega), hl, Nat.sub_self]
    simp [List.replicate_succ]
  rw [e1]
  have := setL_all ((cs.drop i).take (C - i)) (List.replicate k z) (cs.take i ++ [x]) (by simp; omega)
  simp only [List.length_append, hl, List.length_cons, List.length_nil] at this
  rw [this, List.take_take, List.drop_take, Nat.min_eq_left (by omega)]

theorem ins_room {cs : List Value} {n C i : Nat} {x : Value} (hi : i < n) (hn : n + 1 ≤ C) (hC : C ≤ cs.length) :
    ((setL cs (i + 1) ((cs.drop i).take (n - i))).set i x).take (n + 1) = (cs.take n).take i ++ [x] ++ (cs.take n).drop i := by
  have h0 : (cs.take (i + 1)).length = i + 1 := by simp; omega
  have h1 : ((cs.drop (i + 1)).take (n - i)).length = n - i := by simp; omega
  have e0 : cs = cs.take (i + 1) ++ ((cs.drop (i + 1)).take (n - i) ++ cs.drop (n + 1)) := by
    have e : cs.drop (n + 1) = (cs.drop (i + 1)).drop (n - i) := by rw [List.drop_drop]; congr 1; omega
    rw [e, List.take_append_drop, List.take_append_drop]
  have e1 : setL cs (i + 1) ((cs.drop i).take (n - i)) = cs.take (i + 1) ++ ((cs.drop i).take (n - i) ++ cs.drop (n + 1)) := by
    have key : ∀ (xs a pre post : List Value), a.length = xs.length → setL (pre ++ (a ++ post)) pre.length xs = pre ++ (xs ++ post) := by
      intro xs
      induction xs with
      | nil => intro a pre post h; have : a = [] := List.eq_nil_of_length_eq_zero h; simp [setL, this]
      | cons y xs ih =>
        intro a pre post h
        cases a with
        | nil => simp at h
        | cons b a =>
          simp only [setL]
          have e : (pre ++ (b :: a ++ post)).set pre.length y = (pre ++ [y]) ++ (a ++ post) := by simp
          rw [e]
          have := ih a (pre ++ [y]) post (by simpa using h)
          simp only [List.length_append, List.length_cons, List.length_nil] at this
          rw [this]; simp
    have := key ((cs.drop i).take (n - i)) ((cs.drop (i + 1)).take (n - i)) (cs.take (i + 1)) (cs.drop (n + 1)) (by simp; omega)
    rw [h0, ← e0] at this
    exact this
  rw [e1]
  have e2 : (cs.take (i + 1) ++ ((cs.drop i).take (n - i) ++ cs.drop (n + 1))).set i x = cs.take i ++ ([x] ++ ((cs.drop i).take (n - i) ++ cs.drop (n + 1))) := by
    have e : cs.take (i + 1) = cs.take i ++ [cs[i]'(by omega)] := by rw [List.take_add_one]; simp [show i < cs.length by omega]
    have hl : (cs.take i).length = i := by simp; omega
    rw [e, List.append_assoc, List.set_append_right _ _ (by omega), hl, Nat.sub_self]
    simp
  rw [e2]
  have e3 : cs.take i ++ ([x] ++ ((cs.drop i).take (n - i) ++ cs.drop (n + 1))) = (cs.take i ++ [x] ++ (cs.drop i).take (n - i)) ++ cs.drop (n + 1) := by simp
  rw [e3, List.take_append_of_le_length (by simp; omega), List.take_of_length_le (by simp; omega), List.take_take, List.drop_take, Nat.min_eq_left (by omega)]

theorem insertX {h : AH} {A B C n i : Nat} {cs : List Value} {x : Int} {eB : TypeId} (hw : WFH h) (hA : h.get A = some (.row cs 3 true)) (hB : h.get B = some (.row [.int .i64 x] eB true)) (hne : A ≠ B) (hi : i < n) (hnC : n ≤ C) (hCl : C ≤ cs.length) (hCm : C ≤ 9223372036854775807) (hb : n ≤ 4294967296) :
    ACall Tryz.prog 96 [.slice (some ⟨A, 0, none⟩) n C, .int .i64 i, .slice (some ⟨B, 0, none⟩) 1 1] h (fun r h' => VecUp 3 h (some (.row cs 3 true)) A r ((cs.take n).take i ++ [.int .i64 x] ++ (cs.take n).drop i) h') := by
  refine ACall.of_wpX [8, 9, 14] 95 [.tmp 6] Tryz.func96 rfl (by kernel_rfl) rfl rfl fun a hn hd ha => ?_
  have hCS : C < SL := by unfold SL; omega
  simp (disch := first | omega | decide | (simp only [List.length_cons, List.length_nil] <;> omega)) only [push_cast, ↓reduceIte, Nat.reduceLT, Nat.reduceEqDiff, reduceCtorEq, Nat.reduceAdd, if_true, if_false, true_and, and_true, hn, hd, ha, sliceLoX slH, lenS Tryz.underlying25, lenS Tryz.underlying111, decide_eq_false]
  refine AW.regionN 4 (by simp) ?_
  simp (disch := first | omega | decide | (simp only [List.length_cons, List.length_nil] <;> omega)) only [push_cast, ↓reduceIte, Nat.reduceLT, Nat.reduceEqDiff, reduceCtorEq, Nat.reduceAdd, if_true, if_false, true_and, and_true, hn, hd, ha, wrapI]
  refine SemOp.cap (T := 111) (e := 3) (p := some ⟨A, 0, none⟩) (l := n) (c := C) (x := .tmp 29) rfl rfl rfl (by simp (disch := first | omega | decide | (simp only [List.length_cons, List.length_nil] <;> omega)) only [push_cast, ↓reduceIte, Nat.reduceLT, Nat.reduceEqDiff, reduceCtorEq, Nat.reduceAdd, if_true, if_false, true_and, and_true, dst_some, hn]) Tryz.underlying111 (by simp (disch := first | omega | decide | (simp only [List.length_cons, List.length_nil] <;> omega)) only [push_cast, ↓reduceIte, Nat.reduceLT, Nat.reduceEqDiff, reduceCtorEq, Nat.reduceAdd, if_true, if_false, true_and, and_true, hn, ha]) hCS ?_
  have hAn : A < h.next := AH.get_lt hw hA
  have hBn : B < h.next := AH.get_lt hw hB
  simp (disch := first | omega | decide | (simp only [List.length_cons, List.length_nil] <;> omega)) only [push_cast, ↓reduceIte, Nat.reduceLT, Nat.reduceEqDiff, reduceCtorEq, Nat.reduceAdd, if_true, if_false, true_and, and_true, hn, hd, ha]
  refine condV_of (fun h0 => ?_) (fun h0 => ?_)
  · -- no room
    have hC : C = n := by have := h0; simp at this; omega
    subst hC
    simp (disch := first | omega | decide | (simp only [List.length_cons, List.length_nil] <;> omega)) only [push_cast, ↓reduceIte, Nat.reduceLT, Nat.reduceEqDiff, reduceCtorEq, Nat.reduceAdd, if_true, if_false, true_and, and_true, hn, hd, ha]
    refine AW.regionN 8 (by simp) ?_
    obtain ⟨k, hk⟩ : ∃ k : Nat, (C : Int) + 1 - i = k := ⟨C + 1 - i, by omega⟩
    simp (disch := first | omega | decide | (simp only [List.length_cons, List.length_nil] <;> omega)) only [push_cast, ↓reduceIte, Nat.reduceLT, Nat.reduceEqDiff, reduceCtorEq, Nat.reduceAdd, if_true, if_false, true_and, and_true, hn, hd, ha, sliceHiX slH, wrapI]
    refine SemOp.appendZ (T := 111) (TI := 3) (B := 8) (z := .int .i64 0) (A := A) (i := i) (C := C) (k := k) (cs := cs) (s := .tmp 34) (x := .tmp 39) rfl rfl rfl rfl (by simp (disch := first | omega | decide | (simp only [List.length_cons, List.length_nil] <;> omega)) only [push_cast, ↓reduceIte, Nat.reduceLT, Nat.reduceEqDiff, reduceCtorEq, Nat.reduceAdd, if_true, if_false, true_and, and_true, dst_some, hn]) slTH undI (by simp (disch := first | omega | decide | (simp only [List.length_cons, List.length_nil] <;> omega)) only [push_cast, ↓reduceIte, Nat.reduceLT, Nat.reduceEqDiff, reduceCtorEq, Nat.reduceAdd, if_true, if_false, true_and, and_true, hn, ha]) hCS (by omega) (by simp (disch := first | omega | decide | (simp only [List.length_cons, List.length_nil] <;> omega)) only [push_cast, ↓reduceIte, Nat.reduceLT, Nat.reduceEqDiff, reduceCtorEq, Nat.reduceAdd, if_true, if_false, true_and, and_true, hn, ha, hk]) hA rfl (by omega) (by omega) (by omega) (by omega) (by omega) ?_
    generalize hG : h.new (.grow (cs.take i ++ List.replicate k (.int .i64 0)) 3) = h2
    have hw2 : WFH h2 := by rw [← hG]; exact hw.new _
    have hGg : h2.get h.next = some (.grow (cs.take i ++ List.replicate k (.int .i64 0)) 3) := by rw [← hG, AH.new_get, if_pos rfl]
    have hB2 : h2.get B = some (.row [.int .i64 x] eB true) := by rw [← hG, AH.new_get, if_neg (by omega)]; exact hB
    have hA2 : h2.get A = some (.row cs 3 true) := by rw [← hG, AH.new_get, if_neg (by omega)]; exact hA
    have hc1 := aCopyL (n := 1) (la := i + k - i) (lb := 1) (ca := SL + 1) (cb := 1) (oa := i) (ob := 0) slH (by omega) (by omega) hB2 rfl (by simp) hGg (o' := .grow ((cs.take i ++ List.replicate k (Value.int .i64 0)).set i (.int .i64 x)) 3) (by
      have hle : i + 1 ≤ (cs.take i ++ List.replicate k (Value.int .i64 0)).length := by simp; omega
      simp only [AObj.setCells, List.drop_zero, List.take_succ_cons, List.take_zero, List.length_cons, List.length_nil, Nat.zero_add, if_pos hle]
      rfl)
    simp (disch := first | omega | decide | (simp only [List.length_cons, List.length_nil] <;> omega)) only [push_cast, ↓reduceIte, Nat.reduceLT, Nat.reduceEqDiff, reduceCtorEq, Nat.reduceAdd, if_true, if_false, true_and, and_true, hn, hd, ha, sliceLoS slH, hc1]
    generalize hG3 : h2.set h.next _ = h3
    have hw3 : WFH h3 := by rw [← hG3]; exact hw2.set (AH.get_lt hw2 hGg) _
    have hGg3 : h3.get h.next = some (.grow ((cs.take i ++ List.replicate k (Value.int .i64 0)).set i (.int .i64 x)) 3) := by rw [← hG3, AH.set_get, if_pos rfl]
    have hA3 : h3.get A = some (.row cs 3 true) := by rw [← hG3, AH.set_get, if_neg (by omega)]; exact hA2
    refine AW.drawT (.take 0 [8, 4] (.take 1 [8, 4, 3] (.take 2 [8, 4, 3] (.take 3 [8, 4] (.take 4 [8] (.take 5 [8, 7] (.take 6 [8, 7] (.take 7 [8] (.only 8 .done))))))))) [0, 0, 0, 0, 0, 0, 0, 0, 2] mixed (by kernel_rfl) (by kernel_rfl) ?_
    have hc2 := aCopyL (n := C - i) (la := i + k - (i + 1)) (lb := C - i) (ca := SL + 1) (cb := C - i) (oa := i + 1) (ob := i) slH (by omega) (by omega) hA3 rfl (by omega) hGg3 (o' := .grow (setL ((cs.take i ++ List.replicate k (Value.int .i64 0)).set i (.int .i64 x)) (i + 1) ((cs.drop i).take (C - i))) 3) (by
      have hle : i + 1 + ((cs.drop i).take (C - i)).length ≤ ((cs.take i ++ List.replicate k (Value.int .i64 0)).set i (.int .i64 x)).length := by simp; omega
      simp only [AObj.setCells, if_pos hle])
    have ht1 : ((i : Int) + 1).toNat = i + 1 := by omega
    simp (disch := first | omega | decide | (simp only [List.length_cons, List.length_nil] <;> omega)) only [push_cast, ↓reduceIte, Nat.reduceLT, Nat.reduceEqDiff, reduceCtorEq, Nat.reduceAdd, if_true, if_false, true_and, and_true, hn, hd, ha, sliceLoS slH, sliceLoX slH, ht1, hc2, wrapI]
    have hik : i + k = C + 1 := by omega
    rw [ins_grow hi hCl hik]
    have hlz : ((cs.take C).take i ++ [Value.int .i64 x] ++ (cs.take C).drop i).length = i + k := by simp; omega
    refine ⟨⟨h.next, _, .inr (.inl ⟨_, by rw [hlz], rfl, Nat.le_refl _, List.take_length⟩), by rw [AH.set_get, if_pos rfl], .inr (Nat.le_refl _)⟩, fun D o hD hDA => ?_, hw3.set (AH.get_lt hw3 hGg3) _, by rw [AH.set_next, ← hG3, AH.set_next, ← hG]; simp⟩
    have hDn := AH.get_lt hw hD
    rw [AH.set_get, if_neg (by omega), ← hG3, AH.set_get, if_neg (by omega), ← hG, AH.new_get, if_neg (by omega)]; exact hD
  · -- room
    have hroom : n + 1 ≤ C := by have := h0; simp at this; omega
    simp (disch := first | omega | decide | (simp only [List.length_cons, List.length_nil] <;> omega)) only [push_cast, ↓reduceIte, Nat.reduceLT, Nat.reduceEqDiff, reduceCtorEq, Nat.reduceAdd, if_true, if_false, true_and, and_true, hn, hd, ha, sliceHiX slH, wrapI]
    refine AW.regionN 6 (by simp) ?_
    have ht1 : ((i : Int) + 1).toNat = i + 1 := by omega
    have ht2 : ((n : Int) + 1).toNat = n + 1 := by omega
    simp (disch := first | omega | decide | (simp only [List.length_cons, List.length_nil] <;> omega)) only [push_cast, ↓reduceIte, Nat.reduceLT, Nat.reduceEqDiff, reduceCtorEq, Nat.reduceAdd, if_true, if_false, true_and, and_true, hn, hd, ha, sliceLoX slH, wrapI, ht1, ht2]
    refine SemOp.overlaps (x := .tmp 61) (y := .tmp 66) (g := 119) (T := 25) (TB := 4) (e := 3) (B := B) (A := A) (ob := 0) (oa := i + 1) (lb := 1) (cb := 1) (la := n + 1 - (i + 1)) (ca' := C - (i + 1)) rfl rfl rfl rfl (by simp (disch := first | omega | decide | (simp only [List.length_cons, List.length_nil] <;> omega)) only [push_cast, ↓reduceIte, Nat.reduceLT, Nat.reduceEqDiff, reduceCtorEq, Nat.reduceAdd, if_true, if_false, true_and, and_true, dst_some, hn])
      Tryz.func119 (by kernel_rfl) (by kernel_rfl) (by kernel_rfl) (by kernel_rfl) Tryz.underlying25 sl22.one (by simp (disch := first | omega | decide | (simp only [List.length_cons, List.length_nil] <;> omega)) only [push_cast, ↓reduceIte, Nat.reduceLT, Nat.reduceEqDiff, reduceCtorEq, Nat.reduceAdd, if_true, if_false, true_and, and_true, hn, ha]) (by unfold SL; omega) (by simp (disch := first | omega | decide | (simp only [List.length_cons, List.length_nil] <;> omega)) only [push_cast, ↓reduceIte, Nat.reduceLT, Nat.reduceEqDiff, reduceCtorEq, Nat.reduceAdd, if_true, if_false, true_and, and_true, hn, ha]) (by omega) ⟨by omega, by omega⟩ hne hB (by simp) hA rfl rfl (by omega) ?_
    simp (disch := first | omega | decide | (simp only [List.length_cons, List.length_nil] <;> omega)) only [push_cast, ↓reduceIte, Nat.reduceLT, Nat.reduceEqDiff, reduceCtorEq, Nat.reduceAdd, if_true, if_false, true_and, and_true, hn, hd, ha]
    refine AW.drawT (.take 0 [8, 4] (.take 1 [8, 4, 3] (.take 2 [8, 4, 3] (.take 3 [8, 4] (.take 4 [8] (.take 5 [8, 7] (.take 6 [8, 7] (.take 7 [8] (.only 8 .done))))))))) [0, 0, 0, 0, 0, 0, 0, 0, 2] mixed (by kernel_rfl) (by kernel_rfl) ?_
    have hc1 := aCopyL (n := n - i) (la := n + 1 - (i + 1)) (lb := n + 1 - i) (ca := C - (i + 1)) (cb := C - i) (oa := i + 1) (ob := i) slH (by omega) (by omega) hA rfl (by omega) hA (o' := .row (setL cs (i + 1) ((cs.drop i).take (n - i))) 3 true) (by
      have hle : i + 1 + ((cs.drop i).take (n - i)).length ≤ cs.length := by simp; omega
      simp only [AObj.setCells, if_pos hle])
    simp (disch := first | omega | decide | (simp only [List.length_cons, List.length_nil] <;> omega)) only [push_cast, ↓reduceIte, Nat.reduceLT, Nat.reduceEqDiff, reduceCtorEq, Nat.reduceAdd, if_true, if_false, true_and, and_true, hn, hd, ha, sliceLoX slH, ht1, hc1, wrapI]
    generalize hG3 : h.set A _ = h3
    have hw3 : WFH h3 := by rw [← hG3]; exact hw.set hAn _
    have hA3 : h3.get A = some (.row (setL cs (i + 1) ((cs.drop i).take (n - i))) 3 true) := by rw [← hG3, AH.set_get, if_pos rfl]
    have hB3 : h3.get B = some (.row [.int .i64 x] eB true) := by rw [← hG3, AH.set_get, if_neg (fun e => hne e.symm)]; exact hB
    have hsl : (setL cs (i + 1) ((cs.drop i).take (n - i))).length = cs.length := setL_length _ _ _
    have hc2 := aCopyL (n := 1) (la := n + 1 - i) (lb := 1) (ca := C - i) (cb := 1) (oa := i) (ob := 0) slH (by omega) (by omega) hB3 rfl (by simp) hA3 (o' := .row ((setL cs (i + 1) ((cs.drop i).take (n - i))).set i (.int .i64 x)) 3 true) (by
      have hle : i + 1 ≤ (setL cs (i + 1) ((cs.drop i).take (n - i))).length := by omega
      simp only [AObj.setCells, List.drop_zero, List.take_succ_cons, List.take_zero, List.length_cons, List.length_nil, Nat.zero_add, if_pos hle]
      rfl)
    simp (disch := first | omega | decide | (simp only [List.length_cons, List.length_nil] <;> omega)) only [push_cast, ↓reduceIte, Nat.reduceLT, Nat.reduceEqDiff, reduceCtorEq, Nat.reduceAdd, if_true, if_false, true_and, and_true, hn, hd, ha, sliceLoX slH, hc2]
    have hlz : ((cs.take n).take i ++ [Value.int .i64 x] ++ (cs.take n).drop i).length = n + 1 := by simp; omega
    refine ⟨⟨A, _, .inr (.inr ⟨_, C, by rw [hlz], hCm, by rw [hlz]; exact hroom, ?_, rfl, by rw [hlz]; exact ins_room hi hroom hCl⟩), by rw [AH.set_get, if_pos rfl], .inl ⟨rfl, by simp⟩⟩, fun D o hD hDA => ?_, hw3.set (AH.get_lt hw3 hA3) _, by rw [AH.set_next, ← hG3]; simp⟩
    · rw [List.length_set, hsl]; exact hCl
    · have hD2 : D ≠ A := fun e => by have := hDA e; simp at this
      rw [AH.set_get, if_neg hD2, ← hG3, AH.set_get, if_neg hD2]; exact hD

theorem insert {h : AH} {v : Value} {ob : Option AObj} {A B i : Nat} {zs : List Value} {x : Int} {eB : TypeId} (hw : WFH h) (hv : Vec 3 v ob A zs) (hg : ∀ o, ob = some o → h.get A = some o) (hB : h.get B = some (.row [.int .i64 x] eB true)) (hne : ob ≠ none → A ≠ B) (hi : i ≤ zs.length) (hb : zs.length ≤ 4294967296) :
    ACall Tryz.prog 96 [v, .int .i64 i, .slice (some ⟨B, 0, none⟩) 1 1] h (fun r h' => VecUp 3 h ob A r (zs.take i ++ [.int .i64 x] ++ zs.drop i) h') := by
  by_cases he : i = zs.length
  · subst he
    rw [List.take_length, List.drop_length, List.append_nil]
    exact insertEnd hw hv hg hB rfl hb
  · have hlt : i < zs.length := by omega
    rcases hv with ⟨rfl, _⟩ | ⟨cs, rfl, rfl, hle, ht⟩ | ⟨cs, C, rfl, hCm, hnC, hCl, rfl, ht⟩
    · simp at hlt
    · refine ACall.reveal (hg _ rfl) (by omega) ⟨_, Tryz.func96, rfl, by kernel_rfl⟩ fun C junk h1 h2 h3 => ?_
      have hA := hg _ rfl
      have hAn := AH.get_lt hw hA
      have hne' := hne (by simp)
      refine ACall.mono ?_ (insertX (A := A) (C := C) (n := zs.length) (cs := cs ++ junk) (i := i) (hw.set hAn _) (by rw [AH.set_get, if_pos rfl]) (by rw [AH.set_get, if_neg (fun e => hne' e.symm)]; exact hB) hne' hlt h1 h3 h2 hb)
      intro r h' hu
      have e : (cs ++ junk).take zs.length = zs := by rw [List.take_append_of_le_length hle, ht]
      rw [e] at hu
      obtain ⟨⟨A', o', u1, u2, u3⟩, u4, u5, u6⟩ := hu
      refine ⟨⟨A', o', u1, u2, u3.imp (fun x => ⟨x.1, by simp⟩) id⟩, fun D o hD hDA => u4 D o ?_ ?_, u5, u6⟩
      · have hD2 : D ≠ A := fun e => by have := hDA e; simp at this
        rw [AH.set_get, if_neg hD2]; exact hD
      · intro e; have := hDA e; simp at this
    · have hne' := hne (by simp)
      have := insertX (A := A) (C := C) (n := zs.length) (cs := cs) (i := i) hw (hg _ rfl) hB hne' hlt hnC hCl hCm hb
      rw [ht] at this
      exact this


theorem flH : Fl Tryz.prog 111 := ⟨_, Tryz.underlying111, rfl⟩
theorem szH : ∃ i, Tryz.prog.info? 111 = some i ∧ i.size = 1 := ⟨(Tryz.prog.info? 111).get (by kernel_rfl), by kernel_rfl, by kernel_rfl⟩

theorem _root_.Go.Ab.Vec.shape {e : TypeId} {v : Value} {ob : Option AObj} {A : Nat} {zs : List Value} (hv : Vec e v ob A zs) : v.cells.toList = [v] ∧ oneC v = true := by
  rcases hv with ⟨_, rfl, _⟩ | ⟨cs, rfl, _⟩ | ⟨cs, C, rfl, _⟩ <;> exact ⟨rfl, rfl⟩

theorem _root_.Go.Ab.Vec.pre {e : TypeId} {v : Value} {ob : Option AObj} {A : Nat} {zs : List Value} (hv : Vec e v ob A zs) {t : TypeId} (ht : Sl1 Tryz.prog t e) (h0 : 0 < zs.length) {n : Nat} (hn : n ≤ zs.length) :
    ∃ v', aSlice Tryz.prog t v none (some (.int .i64 n)) = some v' ∧ Vec e v' ob A (zs.take n) := by
  have hl : (zs.take n).length = n := by simp; omega
  rcases hv with ⟨rfl, _⟩ | ⟨cs, rfl, rfl, hle, htk⟩ | ⟨cs, C, rfl, hc, hle, hcl, rfl, htk⟩
  · simp at h0
  · refine ⟨.slice (some ⟨A, 0, none⟩) n (SL + 1), ?_, .inr (.inl ⟨cs, by rw [hl], rfl, by omega, ?_⟩)⟩
    · rw [sliceHiS ht A 0 zs.length .i64 n (by omega) (by omega), Int.toNat_natCast]
    · rw [hl, ← htk, List.take_take, Nat.min_eq_left hn]
  · refine ⟨.slice (some ⟨A, 0, none⟩) n C, ?_, .inr (.inr ⟨cs, C, by rw [hl], hc, by omega, hcl, rfl, ?_⟩)⟩
    · rw [sliceHiX ht A 0 zs.length C .i64 n (by unfold SL; omega) (by omega) (by omega), Int.toNat_natCast]
    · rw [hl, ← htk, List.take_take, Nat.min_eq_left hn]

def ins (p : Nat) (x : Int) (zs : List Int) : List Int := zs.take p ++ [x] ++ zs.drop p

/-- What push leaves. -/
def PushPost (b : AH) (nm : Nat → Nat) (ob : Nat → Option AObj) (zs : List Int) (x : Int) (_ : Value) (h' : AH) : Prop :=
  ∃ rv A' o' p, p ≤ zs.length ∧ Vec 3 rv (some o') A' ((ins p x zs).map (.int .i64)) ∧ Owns b h' (upd nm 3 A') (upd (upd ob 3 (some o')) 2 (some (.row [rv] 111 true)))

theorem push {b h : AH} (w0 : WFH b) {nm : Nat → Nat} {ob : Nat → Option AObj} (ho : Owns b h nm ob) {rv : Value} (h2 : ob 2 = some (.row [rv] 111 true)) {zs : List Int} (hv : Vec 3 rv (ob 3) (nm 3) (zs.map (.int .i64))) (hb : zs.length ≤ 4294967296) (x : Int) :
    ACall Tryz.prog 71 [.pointer (some ⟨nm 2, 0, none⟩), .int .i64 x] h (PushPost b nm ob zs x) := by
  refine ACall.of_wp 23 [] Tryz.func71 rfl (by kernel_rfl) rfl rfl fun a hn hd ha => ?_
  have hH := ho.get 2 _ h2
  have hld := ldL (P := Tryz.prog) hH rfl flH
  simp only [List.length_cons, List.length_nil] at hld
  have hsl : SlOf h rv (zs.map (.int .i64)) := hv.sl (ho.get 3)
  simp (disch := first | omega | decide | (simp only [List.length_cons, List.length_nil] <;> omega)) only [push_cast, ↓reduceIte, Nat.reduceLT, Nat.reduceEqDiff, reduceCtorEq, Nat.reduceAdd, if_true, if_false, true_and, and_true, hn, hd, ha, hld]
  refine ACall.mono ?_ (search hsl hb)
  rintro _ _ ⟨⟨p, q, hp, rfl⟩, rfl⟩
  rename_i h
  have hw := ho.gr.wf
  have g1 : Gr h (h.new (.row [.int .i64 x] 3 true)) := (Gr.refl hw).new _
  have hB : (h.new (.row [.int .i64 x] 3 true)).get h.next = some (.row [.int .i64 x] 3 true) := by rw [AH.new_get, if_pos rfl]
  have ho1 := ho.grown g1
  simp (disch := first | omega | decide | (simp only [List.length_cons, List.length_nil] <;> omega)) only [push_cast, ↓reduceIte, Nat.reduceLT, Nat.reduceEqDiff, reduceCtorEq, Nat.reduceAdd, if_true, if_false, true_and, and_true, hn, hd, ha, hld, aBuild1 t22 h (x := .int .i64 x) rfl rfl]
  generalize h.new (.row [.int .i64 x] 3 true) = h1 at hB ho1 g1 ⊢
  have hne : ob 3 ≠ none → nm 3 ≠ h.next := by
    intro h3
    cases h3' : ob 3 with
    | none => exact absurd h3' h3
    | some o => have := AH.get_lt hw (ho.get 3 o h3'); omega
  refine ACall.mono ?_ (insert (i := p) ho1.gr.wf hv (ho1.get 3) hB hne (by simpa using hp) (by simpa using hb))
  intro r h' hu
  obtain ⟨A', o', hv', ho'⟩ := ho1.vec w0 hu
  have h2' : upd ob 3 (some o') 2 = some (.row [rv] 111 true) := by rw [upd_ne _ _ (by decide)]; exact h2
  have hH' := ho'.get 2 _ h2'
  rw [upd_ne _ _ (by decide)] at hH'
  have hst := stC szH hH' 0 r (by simp) hv'.shape.1 hv'.shape.2
  simp (disch := first | omega | decide | (simp only [List.length_cons, List.length_nil] <;> omega)) only [push_cast, ↓reduceIte, Nat.reduceLT, Nat.reduceEqDiff, reduceCtorEq, Nat.reduceAdd, if_true, if_false, true_and, and_true, hn, hd, ha, hst]
  refine ⟨r, A', o', p, hp, ?_, ?_⟩
  · have e : (ins p x zs).map (Value.int .i64) = (zs.map (Value.int .i64)).take p ++ [.int .i64 x] ++ (zs.map (Value.int .i64)).drop p := by simp [ins]
    rw [e]; exact hv'
  · have := ho'.set w0 h2' (o' := .row [r] 111 true)
    rwa [upd_ne _ _ (by decide)] at this

/-- What pop leaves. -/
def PopPost (b : AH) (nm : Nat → Nat) (ob : Nat → Option AObj) (zs : List Int) (r : Value) (h' : AH) : Prop :=
  r = .int .i64 (zs.getD (zs.length - 1) 0) ∧ ∃ rv, Vec 3 rv (ob 3) (nm 3) ((zs.take (zs.length - 1)).map (.int .i64)) ∧ Owns b h' nm (upd ob 2 (some (.row [rv] 111 true)))

theorem pop {b h : AH} (w0 : WFH b) {nm : Nat → Nat} {ob : Nat → Option AObj} (ho : Owns b h nm ob) {rv : Value} (h2 : ob 2 = some (.row [rv] 111 true)) {zs : List Int} (hv : Vec 3 rv (ob 3) (nm 3) (zs.map (.int .i64))) (hb : zs.length ≤ 4294967296) (h0 : 0 < zs.length) :
    ACall Tryz.prog 72 [.pointer (some ⟨nm 2, 0, none⟩)] h (PopPost b nm ob zs) := by
  refine ACall.of_wp 24 [.tmp 2] Tryz.func72 rfl (by kernel_rfl) rfl rfl fun a hn hd ha => ?_
  have hH := ho.get 2 _ h2
  have hld := ldL (P := Tryz.prog) hH rfl flH
  simp only [List.length_cons, List.length_nil] at hld
  have hsl : SlOf h rv (zs.map (.int .i64)) := hv.sl (ho.get 3)
  obtain ⟨rv', hsv, hv'⟩ := hv.pre (t := 111) slH (by simpa using h0) (n := zs.length - 1) (by simp)
  have hk : ((zs.length : Int) - 1).toNat = zs.length - 1 := by omega
  obtain ⟨k, hk1⟩ : ∃ k : Nat, (zs.length : Int) - 1 = k := ⟨zs.length - 1, by omega⟩
  have hk2 : zs.length - 1 = k := by omega
  rw [hk2] at hsv hv'
  have hst := stC szH hH 0 rv' (by simp) hv'.shape.1 hv'.shape.2
  simp (disch := first | omega | decide | (simp only [List.length_cons, List.length_nil] <;> omega)) only [push_cast, ↓reduceIte, Nat.reduceLT, Nat.reduceEqDiff, reduceCtorEq, Nat.reduceAdd, if_true, if_false, true_and, and_true, hn, hd, ha, hld, hsl.lenM Tryz.underlying111, hk1, hsl.idxI slH, hsl.ldI slH, hsv, hst, wrapI]
  refine ⟨by rw [hk2], rv', by rw [hk2, List.map_take]; exact hv', ?_⟩
  exact ho.set w0 h2

end Go.Ab.S1

namespace Go.Ab.S1
open Go.Proofs

theorem getD_set {α : Type} {l : List α} {i j : Nat} {x d : α} (hi : i < l.length) : (l.set i x).getD j d = if j = i then x else l.getD j d := by
  simp only [List.getD_eq_getElem?_getD, List.getElem?_set]
  by_cases h : i = j
  · subst h; simp [hi]
  · have : ¬ j = i := fun e => h e.symm
    simp [h, this]

theorem take_succ_getD {α : Type} {l : List α} {q : Nat} (hq : q < l.length) (d : α) : l.take (q + 1) = l.take q ++ [l.getD q d] := by
  rw [List.take_add_one]
  simp [List.getD_eq_getElem?_getD, hq]

theorem ins_perm (p : Nat) (x : Int) (zs : List Int) : (ins p x zs).Perm (x :: zs) := by
  unfold ins
  have h : (zs.take p ++ [x] ++ zs.drop p).Perm ([x] ++ zs.take p ++ zs.drop p) := List.Perm.append_right _ List.perm_append_comm
  refine h.trans ?_
  simp

theorem BuildP.start (n : Net) : BuildP n 0 0 (List.replicate n.insts.length 0) (fun _ => []) [] := by
  refine ⟨by simp, fun j hj => ?_, fun k _ j => ?_, fun k _ => by simp, by simp, fun j => by simp; omega⟩
  · by_cases h : j = 0
    · subst h; simp [List.getD_eq_getElem?_getD, hj]
    · simp [List.getD_eq_getElem?_getD, hj, h]
  · show List.count j [] = _
    rw [List.count_nil]
    split
    · rename_i h; omega
    · split <;> simp

theorem BuildP.lt {n : Net} {i q : Nat} {M : List Int} {us : Nat → List Int} {R : List Int} (b : BuildP n i q M us R) (hi : i < n.insts.length) : M.getD i 0 = (((pinsOf n i).take q).countP (remB n []) : Int) := by
  have := b.m i hi
  rw [if_neg (by omega), if_pos rfl] at this; exact this

/-- A pin at an instance. -/
theorem BuildP.pin {n : Net} {i q : Nat} {M : List Int} {us : Nat → List Int} {R : List Int} (b : BuildP n i q M us R) (hi : i < n.insts.length) (hq : q < (pinsOf n i).length) {k : Nat} (hk : k < n.insts.length) (hp : (pinsOf n i).getD q 0 = firstE n + k) :
    BuildP n i (q + 1) (M.set i (M.getD i 0 + 1)) (upd us k (us k ++ [(i : Int)])) R := by
  have hM : i < M.length := by rw [b.len]; exact hi
  have hF : remB n [] (firstE n + k) = true := by simp [remB]; omega
  refine ⟨by rw [List.length_set]; exact b.len, fun j hj => ?_, fun k' hk' j => ?_, fun k' hk' => ?_, b.nd, b.r⟩
  · rw [getD_set hM]
    by_cases e : j = i
    · subst e
      rw [if_pos rfl, b.lt hi, if_neg (by omega), if_pos rfl, take_succ_getD hq 0, List.countP_append, hp]
      simp [hF]
    · rw [if_neg e, b.m j hj]
      by_cases h1 : j < i
      · rw [if_pos h1, if_pos h1]
      · rw [if_neg h1, if_neg h1, if_neg e, if_neg e]
  · have hb := b.u k' hk' j
    by_cases e : k' = k
    · subst e
      rw [upd_same, List.count_append, hb, take_succ_getD hq 0, List.count_append, hp]
      by_cases h1 : 0 ≤ j ∧ j < (i : Int)
      · rw [if_pos h1, if_pos h1]
        have : ¬ (i : Int) = j := by omega
        simp [List.count_cons, this]
      · rw [if_neg h1, if_neg h1]
        by_cases h2 : j = (i : Int)
        · subst h2; rw [if_pos rfl, if_pos rfl]; simp
        · rw [if_neg h2, if_neg h2]
          have : ¬ (i : Int) = j := fun e => h2 e.symm
          simp [List.count_cons, this]
    · rw [upd_ne _ _ e, hb]
      by_cases h1 : 0 ≤ j ∧ j < (i : Int)
      · rw [if_pos h1, if_pos h1]
      · rw [if_neg h1, if_neg h1]
        by_cases h2 : j = (i : Int)
        · rw [if_pos h2, if_pos h2, take_succ_getD hq 0, List.count_append, hp]
          have : ¬ (firstE n + (k : Int)) = firstE n + (k' : Int) := by omega
          simp [List.count_cons, this]
        · rw [if_neg h2, if_neg h2]
  · have := b.ul k' hk'
    by_cases e : k' = k
    · subst e; rw [upd_same]; simp; omega
    · rw [upd_ne _ _ e]; omega

/-- Another pin. -/
theorem BuildP.skip {n : Net} {i q : Nat} {M : List Int} {us : Nat → List Int} {R : List Int} (b : BuildP n i q M us R) (hq : q < (pinsOf n i).length) (hp : (pinsOf n i).getD q 0 < firstE n) :
    BuildP n i (q + 1) M us R := by
  refine ⟨b.len, fun j hj => ?_, fun k' hk' j => ?_, fun k' hk' => by have := b.ul k' hk'; omega, b.nd, b.r⟩
  · rw [b.m j hj, take_succ_getD hq 0, List.countP_append]
    have : remB n [] ((pinsOf n i).getD q 0) = false := by simp only [remB, Bool.and_eq_false_iff, decide_eq_false_iff_not]; left; omega
    have hs : List.countP (remB n []) [(pinsOf n i).getD q 0] = 0 := by simp only [List.countP_cons, List.countP_nil, this]; rfl
    rw [hs, Nat.add_zero]
  · rw [b.u k' hk' j, take_succ_getD hq 0, List.count_append]
    have : ¬ (pinsOf n i).getD q 0 = firstE n + (k' : Int) := by omega
    simp only [List.count_cons, List.count_nil, beq_iff_eq, this, if_false, Nat.add_zero]

/-- Behind an instance's pins. -/
theorem BuildP.next {n : Net} {i : Nat} {M : List Int} {us : Nat → List Int} {R R' : List Int} (s : ShapeOK n) (b : BuildP n i (pinsOf n i).length M us R) (hi : i < n.insts.length)
    (hR : (M.getD i 0 = 0 ∧ R'.Perm ((i : Int) :: R)) ∨ (M.getD i 0 ≠ 0 ∧ R' = R)) : BuildP n (i + 1) 0 M us R' := by
  have hMi := b.lt hi
  rw [List.take_length] at hMi
  have hrem : M.getD i 0 = (rem n [] i : Int) := hMi
  have hni : (i : Int) ∉ R := fun h => by have := (b.r i).1 h; omega
  refine ⟨b.len, fun j hj => ?_, fun k hk j => ?_, fun k hk => ?_, ?_, fun j => ?_⟩
  · rw [b.m j hj, List.take_length]
    by_cases h1 : j < i
    · rw [if_pos h1, if_pos (by omega)]
    · by_cases h2 : j = i
      · subst h2; rw [if_neg (by omega), if_pos rfl, if_pos (by omega)]; rfl
      · rw [if_neg h1, if_neg h2, if_neg (by omega)]
        by_cases h3 : j = i + 1
        · subst h3; rw [if_pos rfl]; simp
        · rw [if_neg h3]
  · rw [b.u k hk j, List.take_length]
    by_cases h1 : 0 ≤ j ∧ j < (i : Int)
    · rw [if_pos h1, if_pos ⟨h1.1, by omega⟩]
    · by_cases h2 : j = (i : Int)
      · subst h2; rw [if_neg h1, if_pos rfl, if_pos ⟨by omega, by omega⟩]; simp
      · rw [if_neg h1, if_neg h2, if_neg (by omega)]
        simp
  · have := b.ul k hk
    have := s.pinsOf4 hi
    omega
  · rcases hR with ⟨_, hp⟩ | ⟨_, rfl⟩
    · rw [hp.nodup_iff]; exact List.nodup_cons.2 ⟨hni, b.nd⟩
    · exact b.nd
  · rcases hR with ⟨h0, hp⟩ | ⟨h0, rfl⟩
    · rw [hp.mem_iff, List.mem_cons, b.r j]
      constructor
      · rintro (rfl | ⟨h1, h2, h3⟩)
        · exact ⟨by omega, by omega, by rw [Int.toNat_natCast]; omega⟩
        · exact ⟨h1, by omega, h3⟩
      · rintro ⟨h1, h2, h3⟩
        by_cases e : j = (i : Int)
        · left; exact e
        · right; exact ⟨h1, by omega, h3⟩
    · rw [b.r j]
      constructor
      · rintro ⟨h1, h2, h3⟩; exact ⟨h1, by omega, h3⟩
      · rintro ⟨h1, h2, h3⟩
        refine ⟨h1, ?_, h3⟩
        by_cases e : j = (i : Int)
        · subst e; rw [Int.toNat_natCast] at h3; omega
        · omega

theorem MainP.start {n : Net} {M : List Int} {us : Nat → List Int} {R : List Int} (b : BuildP n n.insts.length 0 M us R) : MainP n us [] R M [] := by
  have hm : ∀ j, j < n.insts.length → M.getD j 0 = (rem n [] j : Int) := fun j hj => by rw [b.m j hj, if_pos hj]
  refine ⟨b.len, fun j hj => by rw [hm j hj]; simp, ⟨by simp, by simp, fun j x h => by simp at h⟩, by simpa using b.nd, fun j => ?_⟩
  rw [b.r j]
  constructor
  · rintro (h | ⟨h1, h2, h3⟩)
    · simp at h
    · exact ⟨h1, h2, by rw [hm _ (by omega), h3]; rfl⟩
  · rintro ⟨h1, h2, h3⟩
    right
    rw [hm _ (by omega)] at h3
    exact ⟨h1, h2, by omega⟩

theorem us_count {n : Net} {M : List Int} {us : Nat → List Int} {R : List Int} (b : BuildP n n.insts.length 0 M us R) {k : Nat} (hk : k < n.insts.length) {j : Nat} (hj : j < n.insts.length) : (us k).count (j : Int) = (pinsOf n j).count (firstE n + k) := by
  rw [b.u k hk j, if_pos ⟨by omega, by omega⟩, Int.toNat_natCast]

theorem us_range {n : Net} {M : List Int} {us : Nat → List Int} {R : List Int} (b : BuildP n n.insts.length 0 M us R) {k : Nat} (hk : k < n.insts.length) {x : Int} (hx : x ∈ us k) : 0 ≤ x ∧ x < n.insts.length := by
  have h := b.u k hk x
  have hpos : 0 < (us k).count x := List.count_pos_iff.2 hx
  by_cases h1 : 0 ≤ x ∧ x < (n.insts.length : Int)
  · exact h1
  · rw [if_neg h1] at h
    by_cases h2 : x = (n.insts.length : Int)
    · rw [if_pos h2] at h; simp at h; omega
    · rw [if_neg h2] at h; omega

/-- An instance that is ready is taken. -/
theorem MainP.pop {n : Net} {us : Nat → List Int} {O R M : List Int} (m : MainP n us O R M []) (h0 : 0 < R.length) (hu : ∀ i j : Nat, i < n.insts.length → j < n.insts.length → (us i).count (j : Int) = (pinsOf n j).count (firstE n + i)) :
    (0 ≤ R.getD (R.length - 1) 0 ∧ R.getD (R.length - 1) 0 < n.insts.length) ∧ MainP n us (O ++ [R.getD (R.length - 1) 0]) (R.take (R.length - 1)) M (us (R.getD (R.length - 1) 0).toNat) := by
  have hR : R = R.take (R.length - 1) ++ [R.getD (R.length - 1) 0] := by
    have := take_succ_getD (l := R) (q := R.length - 1) (by omega) 0
    rw [← this, List.take_of_length_le (by omega)]
  generalize R.getD (R.length - 1) 0 = i at *
  generalize R.take (R.length - 1) = R' at *
  subst hR
  have hin := (m.r i).1 (.inr (by simp))
  have hrange : 0 ≤ i ∧ i < n.insts.length := ⟨hin.1, hin.2.1⟩
  have hnd := m.nd
  have hiO : i ∉ O := fun h => by
    rw [List.nodup_append] at hnd
    exact hnd.2.2 i h i (by simp) rfl
  have hrem : rem n O i.toNat = 0 := by
    have := m.m i.toNat (by omega)
    rw [hin.2.2] at this
    simp at this; omega
  refine ⟨hrange, m.len, fun j hj => ?_, m.topo.push hrange.1 hrange.2 hiO hrem, ?_, fun j => ?_⟩
  · have := m.m j hj
    rw [this, rem_push hiO hrange.1 j, hu i.toNat j (by omega) hj]
    have e : ((i.toNat : Nat) : Int) = i := by omega
    rw [e]
    simp
  · have hp : (O ++ [i] ++ R').Perm (O ++ (R' ++ [i])) := by
      rw [List.append_assoc]
      exact List.Perm.append_left _ List.perm_append_comm
    exact hp.nodup_iff.2 hnd
  · rw [← m.r j]
    simp only [List.mem_append, List.mem_singleton]
    constructor
    · rintro ((h | h) | h)
      · exact .inl h
      · exact .inr (.inr h)
      · exact .inr (.inl h)
    · rintro (h | h | h)
      · exact .inl (.inl h)
      · exact .inr h
      · exact .inl (.inr h)

/-- A user of the instance that was taken waits for one less. -/
theorem MainP.dec {n : Net} {us : Nat → List Int} {O R R' M w : List Int} {u : Int} (m : MainP n us O R M (u :: w)) (h0 : 0 ≤ u) (h1 : u < n.insts.length)
    (hR : (M.getD u.toNat 0 - 1 = 0 ∧ R'.Perm (u :: R)) ∨ (M.getD u.toNat 0 - 1 ≠ 0 ∧ R' = R)) : 1 ≤ M.getD u.toNat 0 ∧ MainP n us O R' (M.set u.toNat (M.getD u.toNat 0 - 1)) w := by
  have hlt : u.toNat < n.insts.length := by omega
  have hM : u.toNat < M.length := by rw [m.len]; exact hlt
  have hu : ((u.toNat : Nat) : Int) = u := by omega
  have hmu := m.m u.toNat hlt
  rw [hu, List.count_cons_self] at hmu
  have hpos : 1 ≤ M.getD u.toNat 0 := by rw [hmu]; omega
  have hnot : ¬ (u ∈ O ∨ u ∈ R) := fun h => by have := (m.r u).1 h; omega
  refine ⟨hpos, by rw [List.length_set]; exact m.len, fun j hj => ?_, m.topo, ?_, fun j => ?_⟩
  · rw [getD_set hM]
    by_cases e : j = u.toNat
    · subst e
      rw [if_pos rfl, hu, hmu]; omega
    · have hne : ¬ u = (j : Int) := by omega
      rw [if_neg e, m.m j hj, List.count_cons]
      simp [hne]
  · rcases hR with ⟨_, hp⟩ | ⟨_, rfl⟩
    · have h2 : (O ++ R').Perm (u :: (O ++ R)) := (List.Perm.append_left O hp).trans List.perm_middle
      rw [h2.nodup_iff]
      exact List.nodup_cons.2 ⟨fun h => hnot (List.mem_append.1 h), m.nd⟩
    · exact m.nd
  · have hmr := m.r j
    by_cases e : j = u
    · subst e
      rw [getD_set hM, if_pos rfl]
      rcases hR with ⟨hz, hp⟩ | ⟨hz, rfl⟩
      · constructor
        · intro _; exact ⟨h0, h1, hz⟩
        · intro _; right; rw [hp.mem_iff]; simp
      · constructor
        · intro h; exact absurd h hnot
        · rintro ⟨_, _, h⟩; exact absurd h hz
    · have hside : j ∈ O ∨ j ∈ R' ↔ j ∈ O ∨ j ∈ R := by
        rcases hR with ⟨hz, hp⟩ | ⟨hz, rfl⟩
        · rw [hp.mem_iff, List.mem_cons]; simp [e]
        · exact Iff.rfl
      rw [hside, hmr, getD_set hM]
      constructor
      · rintro ⟨a, b, c⟩; exact ⟨a, b, by rw [if_neg (by omega)]; exact c⟩
      · rintro ⟨a, b, c⟩; refine ⟨a, b, ?_⟩; rw [if_neg (by omega)] at c; exact c

/-- Some instances wait for one another. -/
def Stuck (n : Net) (O : List Int) : Prop := ∀ i : Nat, i < n.insts.length → (i : Int) ∉ O → ∃ p ∈ pinsOf n i, firstE n ≤ p ∧ p - firstE n ∉ O

theorem MainP.stuck {n : Net} {us : Nat → List Int} {O M : List Int} (m : MainP n us O [] M []) : Stuck n O := by
  intro i hi hO
  have h := m.r i
  have hm := m.m i hi
  have : M.getD i 0 ≠ 0 := fun e => by
    have := h.2 ⟨by omega, by omega, by rw [Int.toNat_natCast]; exact e⟩
    rcases this with h | h
    · exact hO h
    · simp at h
  exact rem_pos (O := O) (j := i) (fun e => this (by rw [hm, e]; simp))

end Go.Ab.S1

namespace Go.Ab.S1
open Go.Proofs
set_option linter.unusedSimpArgs false
set_option linter.unusedVariables false
set_option maxRecDepth 100000
set_option maxHeartbeats 4000000
attribute [local push_cast] wpA_skip wpA_ret wpA_exit wpA_seq wpA_block wpA_cond2 andK_true wpA_region wpA_draw wpA_loop thenQ_normal thenQ_ret thenQ_exit blockQ_normal blockQ_ret blockQ_exit condV_true condV_false opsM_nil opsM_cons2 okM_true wantM_true wantM_false stepM seqM_cons2 seqM_nil2 okS_true wantS_true wantS_false stepS skipS okB Keeps_nil contK_app List.zip_cons_cons List.zip_nil_left List.zip_nil_right Op.operands Call.operands Array.toList_append List.append_nil List.nil_append List.all_cons List.all_nil cOK plain put_n put_tm put_none put_df ev_tmp ev_const ev_func wanted_none wanted_some callR_func dop ex_some1 aBuiltin aBin intBin aUn Option.map_some Bool.and_true Bool.true_and Bool.and_self List.map_cons List.map_nil List.toList_toArray List.getElem?_toArray List.getElem?_cons_zero List.getElem?_cons_succ Option.getD_some Option.getD_none Bool.false_eq_true eq_self_iff_true decide_true decide_false List.cons_append aExtract resL resV List.getD_cons_zero List.getD_cons_succ List.getD_nil Nat.succ_ne_self g1 g2 yieldedA2 isB_bool isB_undef g3 Option.bind_some Option.bind_none bne_self_eq_false beq_self_eq_true Bool.not_true Bool.not_false Int.toNat_natCast List.length_map List.mem_cons List.not_mem_nil or_false not_false_eq_true decide_not Bool.not_not bodyR_ret2 bodyR_normal2 closeMarks_nil ex_some0 Nat.zero_add Nat.add_zero ieq ine List.map_toArray Option.toArray_none Option.toArray_some oev Keeps_cons Still_eq selL wpX_skip wpX_ret wpX_exit wpX_seq wpX_block wpX_cond wpX_region wpX_draw wpX_loop List.take_succ_cons List.take_zero List.drop_succ_cons List.drop_zero Int.zero_add Int.add_zero aNil

theorem slU : Sl1 Tryz.prog 97 25 := ⟨Tryz.underlying97, ⟨(Tryz.prog.info? 25).get (by kernel_rfl), by kernel_rfl, by kernel_rfl⟩, ⟨_, Tryz.underlying25, rfl⟩⟩
theorem szI : ∃ i, Tryz.prog.info? 25 = some i ∧ i.size = 1 := slU.one
theorem slTU : SlT Tryz.prog 97 25 24 (.slice none 0 0) := ⟨Tryz.underlying97, ⟨(Tryz.prog.info? 25).get (by kernel_rfl), by kernel_rfl, by kernel_rfl, by kernel_rfl, by kernel_rfl⟩, ⟨_, Tryz.underlying25, rfl⟩, rfl, rfl, rfl⟩

structure St (N : Nat) (b h : AH) (nm : Nat → Nat) (ob : Nat → Option AObj) (M : List Int) (us : Nat → List Int) (uv : List Value) (R O : List Int) (ov : Value) : Prop where
  own : Owns b h nm ob
  m : ob 0 = some (.row (M.map (.int .i64)) 3 true)
  u : ob 1 = some (.row uv 25 true)
  ul : uv.length = N
  ue : ∀ k, k < N → Vec 3 (uv.getD k undef) (ob (5 + k)) (nm (5 + k)) ((us k).map (.int .i64))
  r : ∃ rv, ob 2 = some (.row [rv] 111 true) ∧ Vec 3 rv (ob 3) (nm 3) (R.map (.int .i64))
  o : Vec 3 ov (ob 4) (nm 4) (O.map (.int .i64))

section
variable {N : Nat} {b h : AH} {nm : Nat → Nat} {ob : Nat → Option AObj} {M : List Int} {us : Nat → List Int} {uv : List Value} {R O : List Int} {ov : Value}

theorem St.grown {h' : AH} (s : St N b h nm ob M us uv R O ov) (g : Gr h h') : St N b h' nm ob M us uv R O ov := ⟨s.own.grown g, s.m, s.u, s.ul, s.ue, s.r, s.o⟩

theorem St.setM (w0 : WFH b) (s : St N b h nm ob M us uv R O ov) (M' : List Int) : St N b (h.set (nm 0) (.row (M'.map (.int .i64)) 3 true)) nm (upd ob 0 (some (.row (M'.map (.int .i64)) 3 true))) M' us uv R O ov := by
  refine ⟨s.own.set w0 s.m, upd_same _ _ _, by rw [upd_ne _ _ (by omega)]; exact s.u, s.ul, fun k hk => by rw [upd_ne _ _ (by omega)]; exact s.ue k hk, ?_, by rw [upd_ne _ _ (by omega)]; exact s.o⟩
  obtain ⟨rv, h1, h2⟩ := s.r
  exact ⟨rv, by rw [upd_ne _ _ (by omega)]; exact h1, by rw [upd_ne _ _ (by omega)]; exact h2⟩

/-- One more user of an instance. -/
theorem St.user (w0 : WFH b) (s : St N b h nm ob M us uv R O ov) {k : Nat} (hk : k < N) (x : Int) (hb : (us k).length ≤ 4294967296) :
    ∃ r h2 nm' ob', aAppend Tryz.prog #[25, 25] (uv.getD k undef) (.slice (some ⟨h.next, 0, none⟩) 1 1) (h.new (.row [.int .i64 x] 3 true)) = some (r, h2) ∧ r.cells.toList = [r] ∧ oneC r = true ∧
      h2.get (nm 1) = some (.row uv 25 true) ∧ nm' 0 = nm 0 ∧ nm' 1 = nm 1 ∧ nm' 2 = nm 2 ∧
      St N b (h2.set (nm 1) (.row (uv.set k r) 25 true)) nm' ob' M (upd us k (us k ++ [x])) (uv.set k r) R O ov := by
  have hw := s.own.gr.wf
  have g1 : Gr h (h.new (.row [.int .i64 x] 3 true)) := (Gr.refl hw).new _
  have s1 := s.grown g1
  have hB : (h.new (.row [.int .i64 x] 3 true)).get h.next = some (.row [.int .i64 x] 3 true) := by rw [AH.new_get, if_pos rfl]
  have hv := s.ue k hk
  obtain ⟨r, h2, happ, hup⟩ := appendV (t := 25) (t2 := 25) t22 ⟨_, Tryz.underlying25⟩ s1.own.gr.wf hv (s1.own.get (5 + k)) hB rfl rfl (by simp; omega) (by simp; omega)
  obtain ⟨A', o', hv', ho'⟩ := s1.own.vec w0 hup
  have hu1 : upd ob (5 + k) (some o') 1 = some (.row uv 25 true) := by rw [upd_ne _ _ (by omega)]; exact s.u
  have hg1 := ho'.get 1 _ hu1
  rw [upd_ne _ _ (by omega)] at hg1
  have ho2 := ho'.set w0 hu1 (o' := .row (uv.set k r) 25 true)
  rw [upd_ne nm _ (by omega : 1 ≠ 5 + k)] at ho2
  refine ⟨r, h2, _, _, happ, hv'.shape.1, hv'.shape.2, hg1, upd_ne _ _ (by omega), upd_ne _ _ (by omega), upd_ne _ _ (by omega), ho2, ?_, upd_same _ _ _, by rw [List.length_set]; exact s.ul, fun j hj => ?_, ?_, ?_⟩
  · rw [upd_ne _ _ (by omega), upd_ne _ _ (by omega)]; exact s.m
  · rw [getD_set (by rw [s.ul]; exact hk), upd_ne _ _ (by omega)]
    by_cases e : j = k
    · subst e
      rw [if_pos rfl, upd_same, upd_same, upd_same]
      simpa using hv'
    · rw [if_neg e, upd_ne _ _ (by omega), upd_ne _ _ (by omega), upd_ne _ _ e]; exact s.ue j hj
  · obtain ⟨rv, h1, h3⟩ := s.r
    refine ⟨rv, ?_, ?_⟩
    · rw [upd_ne _ _ (by omega), upd_ne _ _ (by omega)]; exact h1
    · rw [upd_ne _ _ (by omega), upd_ne _ _ (by omega), upd_ne _ _ (by omega)]; exact h3
  · rw [upd_ne _ _ (by omega), upd_ne _ _ (by omega), upd_ne _ _ (by omega)]; exact s.o

/-- One more instance in the order. -/
theorem St.put (w0 : WFH b) (s : St N b h nm ob M us uv R O ov) (x : Int) (hb : O.length ≤ 4294967296) :
    ∃ r h2 nm' ob', aAppend Tryz.prog #[25, 25] ov (.slice (some ⟨h.next, 0, none⟩) 1 1) (h.new (.row [.int .i64 x] 3 true)) = some (r, h2) ∧ nm' 0 = nm 0 ∧ nm' 1 = nm 1 ∧ nm' 2 = nm 2 ∧
      St N b h2 nm' ob' M us uv R (O ++ [x]) r := by
  have hw := s.own.gr.wf
  have g1 : Gr h (h.new (.row [.int .i64 x] 3 true)) := (Gr.refl hw).new _
  have s1 := s.grown g1
  have hB : (h.new (.row [.int .i64 x] 3 true)).get h.next = some (.row [.int .i64 x] 3 true) := by rw [AH.new_get, if_pos rfl]
  obtain ⟨r, h2, happ, hup⟩ := appendV (t := 25) (t2 := 25) t22 ⟨_, Tryz.underlying25⟩ s1.own.gr.wf s.o (s1.own.get 4) hB rfl rfl (by simp; omega) (by simp; omega)
  obtain ⟨A', o', hv', ho'⟩ := s1.own.vec w0 hup
  refine ⟨r, h2, _, _, happ, upd_ne _ _ (by omega), upd_ne _ _ (by omega), upd_ne _ _ (by omega), ho', ?_, ?_, s.ul, fun j hj => ?_, ?_, ?_⟩
  · rw [upd_ne _ _ (by omega)]; exact s.m
  · rw [upd_ne _ _ (by omega)]; exact s.u
  · rw [upd_ne _ _ (by omega), upd_ne _ _ (by omega)]; exact s.ue j hj
  · obtain ⟨rv, h1, h3⟩ := s.r
    refine ⟨rv, ?_, ?_⟩
    · rw [upd_ne _ _ (by omega)]; exact h1
    · rw [upd_ne _ _ (by omega), upd_ne _ _ (by omega)]; exact h3
  · rw [upd_same, upd_same]; simpa using hv'

theorem St.push (w0 : WFH b) (s : St N b h nm ob M us uv R O ov) (hb : R.length ≤ 4294967296) (x : Int) :
    ACall Tryz.prog 71 [.pointer (some ⟨nm 2, 0, none⟩), .int .i64 x] h (fun _ h' => ∃ nm' ob' R', R'.Perm (x :: R) ∧ nm' 0 = nm 0 ∧ nm' 1 = nm 1 ∧ nm' 2 = nm 2 ∧ St N b h' nm' ob' M us uv R' O ov) := by
  obtain ⟨rv, h1, h2⟩ := s.r
  refine ACall.mono ?_ (S1.push w0 s.own h1 h2 hb x)
  rintro v h' ⟨rv', A', o', p, hp, hv', ho'⟩
  refine ⟨_, _, ins p x R, ins_perm p x R, upd_ne _ _ (by omega), upd_ne _ _ (by omega), upd_ne _ _ (by omega), ho', ?_, ?_, s.ul, fun j hj => ?_, ⟨rv', upd_same _ _ _, ?_⟩, ?_⟩
  · rw [upd_ne _ _ (by omega), upd_ne _ _ (by omega)]; exact s.m
  · rw [upd_ne _ _ (by omega), upd_ne _ _ (by omega)]; exact s.u
  · rw [upd_ne _ _ (by omega), upd_ne _ _ (by omega), upd_ne _ _ (by omega)]; exact s.ue j hj
  · rw [upd_ne _ _ (by omega), upd_same, upd_same]; exact hv'
  · rw [upd_ne _ _ (by omega), upd_ne _ _ (by omega), upd_ne _ _ (by omega)]; exact s.o

theorem St.pop (w0 : WFH b) (s : St N b h nm ob M us uv R O ov) (hb : R.length ≤ 4294967296) (h0 : 0 < R.length) :
    ACall Tryz.prog 72 [.pointer (some ⟨nm 2, 0, none⟩)] h (fun r h' => r = .int .i64 (R.getD (R.length - 1) 0) ∧ ∃ ob', St N b h' nm ob' M us uv (R.take (R.length - 1)) O ov) := by
  obtain ⟨rv, h1, h2⟩ := s.r
  refine ACall.mono ?_ (S1.pop w0 s.own h1 h2 hb h0)
  rintro v h' ⟨rfl, rv', hv', ho'⟩
  refine ⟨rfl, _, ho', ?_, ?_, s.ul, fun j hj => ?_, ⟨rv', upd_same _ _ _, ?_⟩, ?_⟩
  · rw [upd_ne _ _ (by omega)]; exact s.m
  · rw [upd_ne _ _ (by omega)]; exact s.u
  · rw [upd_ne _ _ (by omega)]; exact s.ue j hj
  · rw [upd_ne _ _ (by omega)]; exact hv'
  · rw [upd_ne _ _ (by omega)]; exact s.o
end

/-- What Order hands back. -/
def OrderPost (n : Net) (h : AH) (r : Value) (h' : AH) : Prop :=
  Gr h h' ∧ ((shapeE n ≠ 0 ∧ r = .tuple #[.slice none 0 0, .int .i64 (shapeE n)]) ∨
    (shapeE n = 0 ∧ ∃ O, Topo n O ∧ ((O.length < n.insts.length ∧ Stuck n O ∧ r = .tuple #[.slice none 0 0, .int .i64 14]) ∨
      (O.length = n.insts.length ∧ ∃ v, r = .tuple #[v, .int .i64 0] ∧ SlOf h' v (O.map (.int .i64))))))

end Go.Ab.S1
